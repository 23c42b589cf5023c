/- The evaluator and its soundness, a part. No condition. -/
import Derived.Test.YtekbnpmmjciloaaGreatRB
import Derived.Deep.Slices
import Derived.ChangeArms
import Derived.ChangeShapes
import Derived.WideShapes
set_option linter.all false
namespace Go.Proofs.YtekbnpmmjciloaaGreat.R
open Go.RowKit
section
variable {P:Program} {C:Ctx} {w0:World} {lent:Nat→Prop} {H0:Base} {s:St} {a:Act} {w:World} {G:Gh} {call:C.Sem} {ops:Array Oper} {K:Act→World→Prop} {Q:Exit→Act→World→Prop}
theorem Rel.kill (h:Rel P w0 lent H0 s a w G) (d:Nat):Rel P w0 lent H0 (s.put (some d) .dead) a w G:=by
 refine {h with defers:=h.defers,len:=by simpa [St.put] using h.len,slots:=fun i y hy=> ?_}
 have hy':(s.t.set d .dead)[i]? =some y:=hy
 by_cases hi:i=d
 ·subst hi
  have hlt:i<s.t.length:=by
   have:=(av.1 hy').1
   simpa using this
  rw [bh hlt] at hy'
  injection hy' with hy'
  subst hy'
  trivial
 ·rw [bl (Ne.symm hi)] at hy'
  exact h.slots i y hy'
theorem Rel.kills: ∀ (D:List Nat) {s:St},Rel P w0 lent H0 s a w G→Rel P w0 lent H0 (YC s D) a w G
 |[],_,h=>h
 |d::D,_,h=>Rel.kills D (h.kill d)
theorem Agree.refl (G:Gh) (i:Nat):Agree G G i:=⟨Hp.le.refl _,fun _ _=>rfl,fun _ _=>rfl,fun _ _=>rfl,fun _ _=>rfl,fun _ _=>rfl,rfl⟩
theorem Rel.forgets: ∀ (M:List Nat) {s:St},Rel P w0 lent H0 s a w G→Rel P w0 lent H0 (s.forgetAll M) a w G
 |[],_,h=>h
 |i::M,_,h=>Rel.forgets M (h.forget (Agree.refl G i) rfl)
theorem y9Y (h:Rel P w0 lent H0 s a w G) {c:Nat} {x:A} (hx:s.t[c]? =some x): ∃ v,a.tmps[c]? =some v∧RA G x v:=by
 have hlt:c<a.tmps.size:=bL (av.1 hx).1 h.len
 have:=h.slots c x hx
 rw [bu] at this
 rw [cg hlt] at this ⊢
 exact ⟨_,rfl,this⟩
theorem yj0 {s:St} {c:Nat} {x:A} (hx:s.F.opd (.tmp c)=x) (hne:x≠ .dead):s.t[c]? =some x:=by
 have hx':s.t.getD c .dead=x:=hx
 rcases yiB hx' with h|h
 ·exact h
 ·exact absurd h hne
theorem y9e (h:Rel P w0 lent H0 s a w G) {o:Oper} {g:Option (Nat×Bool)} (hg:jX ops o=some g) (hm:met s.F g=true):Region.wanted o (yielded ops a.tmps)=true:=by
 unfold jX at hg
 unfold Region.wanted
 cases ho:o.guard with
 |none=>rfl
 |some p=>
  obtain ⟨j,want⟩:=p
  simp only [ho] at hg ⊢
  cases hj:ops[j]? with
  |none=>simp [hj] at hg
  |some q=>
   simp only [hj] at hg
   cases hd:q.dst with
   |none=>simp [hd] at hg
   |some d=>
    simp only [hd,ap] at hg
    subst hg
    have hb:s.F.bool (.tmp d)=some want:=by simpa [met] using hm
    rw [y7E,y6K] at hb
    obtain ⟨v,hv,hr⟩:=y9Y h hb
    have hr':v= .bool want:=hr
    subst hr'
    simp [yielded,hj,hd,hv]
theorem yd5 (h:Rel P w0 lent H0 s a w G) {o:Oper} {g:Option (Nat×Bool)} (hg:jX ops o=some g) (hm:y7F s.F g=true):Region.wanted o (yielded ops a.tmps)=false:=by
 unfold jX at hg
 unfold Region.wanted
 cases ho:o.guard with
 |none=>
  simp only [ho,ap] at hg
  subst hg
  simp [y7F] at hm
 |some p=>
  obtain ⟨j,want⟩:=p
  simp only [ho] at hg ⊢
  cases hj:ops[j]? with
  |none=>simp [hj] at hg
  |some q=>
   simp only [hj] at hg
   cases hd:q.dst with
   |none=>simp [hd] at hg
   |some d=>
    simp only [hd,ap] at hg
    subst hg
    unfold y7F at hm
    split at hm
    ·cases hm
    ·rename_i c v hcv
     injection hcv with hcv
     injection hcv with e1 e2
     subst e1 e2
     split at hm
     ·rename_i b hb
      obtain ⟨u,hv,hr⟩:=y9Y h (yj0 hb (by simp))
      have hr':u= .bool b:=hr
      subst hr'
      have hne: ∀ x y:Bool,(x !=y)=true→((some x:Option Bool)==some y)=false:=by decide
      have:=hne b want hm
      simp only [yielded,hj,hd,aa,hv]
      exact this
     ·rename_i hb
      obtain ⟨u,hv,hr⟩:=y9Y h (yj0 hb (by simp))
      have hr':u=undef:=hr
      subst hr'
      simp [yielded,hj,hd,hv,undef]
     ·cases hm
theorem ylA (x:Dop) (s:St):y5e (x.see (yF s.o)) s:=by
 intro i ob h
 unfold Dop.see at h
 cases hb:qR x.bad i with
 |true=>simp [hb] at h
 |false=>
  simp only [hb,ag] at h
  split at h
  ·cases h
  ·cases hl:yF s.o i with
   |none=>simp [hl] at h
   |some y=>cases y<;>simp [hl] at h ⊢ <;>exact h
  ·cases hl:yF s.o i with
   |none=>simp [hl] at h
   |some y=>cases y<;>simp [hl] at h ⊢ <;>exact h
  ·exact h
theorem y9f (hT:TOk C P) (hC:qM H0 C P call) {i:Nat} {t:TS} (hout:Out t.x.o) (hi:ops[i]? =some t.x.o) (hg:jX ops t.x.o=some t.x.g) (h:Rel P w0 lent H0 s a w G) {z:FS} (hs:vY C call t s.F=some z)
  (hK: ∀ s' a' w' G',s'.F=z→Rel P w0 lent H0 s' a' w' G'→K a' w'):wpOp P ops Q i K a w:=by
 unfold wpOp
 rw [hi]
 dsimp only
 cases t with
 |run x=>
  simp only [vY] at hs
  split at hs
  ·rename_i hm
   rw [af (y9e h hg hm)]
   refine .inl ?_
   rw [ylx] at hs
   rw [← y7w] at hs
   refine ylw hT hC h (fun e a1 w1 G1 hk hr=>hK _ a1 w1 G1 ?_ hr) hout (ylA x s) hs
   split at hk
   ·injection hk with hk
    rw [yfh]
    exact hk
   ·cases hk
  ·cases hs
 |skip x=>
  simp only [vY] at hs
  split at hs
  ·rename_i hm
   rw [am (by rw [yd5 h hg hm];simp)]
   injection hs with hs
   exact hK (s.put x.o.dst .und) _ _ G (by rw [yiV];exact hs) (h.put x.o.dst rfl)
  ·cases hs
 |pick x M D=>
  simp only [vY] at hs
  split at hs
  ·rename_i hm
   rw [af (y9e h hg hm)]
   refine .inl ?_
   split at hs
   ·rename_i c x1 x2 hop
    cases hc:s.F.bool c with
    |none=>simp [hc] at hs
    |some v=>
     cases hu:s.F.bool (if v then x1 else x2) with
     |none=>simp [hc,hu] at hs
     |some u=>
      simp only [hc,hu,aa,ap] at hs
      have hb: ∀ (y:Operand) (b:Bool),s.F.bool y=some b→a.eval y= .bool b:=fun y b hy=>by
       rw [y7E] at hy
       have hr:=h.opd y
       unfold zu at hy
       split at hy
       ·rename_i b' hb'
        injection hy with hy
        subst hy
        rw [hb'] at hr
        exact hr
       ·cases hy
      have hrun:(execOp a.eval x.o).run P w= .ok (.value (.bool u)) w:=by
       have h1:=hb c v hc
       have h2:=hb _ u hu
       simp only [execOp,hop,h1]
       cases v with
       |true=>
        simp only [aB] at h2
        simp [asBool,h2]
       |false=>
        simp only [aX,aU] at h2
        simp [asBool,h2]
      refine YZ hrun (hK ((YC (s.forgetAll M) D).put x.o.dst (.val .bool u)) _ _ G ?_ (((h.forgets M).kills D).put x.o.dst rfl))
      rw [yiV,yiW,y1r]
      exact hs
   ·cases hs
  ·cases hs
def yJS (ops:Array Oper) (L:List Dop):Prop:=L.length=ops.size∧ ∀ (i:Nat) (x:Dop),L[i]? =some x→ops[i]? =some x.o∧jX ops x.o=some x.g
theorem ygA (hT:TOk C P) (hC:qM H0 C P call) (hout: ∀ (i:Nat) (o:Oper),ops[i]? =some o→Out o) {z:FS} (hQ: ∀ s' a' w' G',s'.F=z→Rel P w0 lent H0 s' a' w' G'→Q .normal a' w'): ∀ (T:List TS) (i:Nat) {s:St} {a:Act} {w:World} {G:Gh},(∀ (j:Nat) (t:TS),T[j]? =some t→ops[i+j]? =some t.x.o∧jX ops t.x.o=some t.x.g)→
  Rel P w0 lent H0 s a w G→k8 C call T s.F=some z→wpOps P ops Q (List.range' i T.length) a w
 |[],i,s,a,w,G,hf,h,hs=>by
  injection hs with hs
  exact hQ s a w G hs h
 |t::T,i,s,a,w,G,hf,h,hs=>by
  rw [k8] at hs
  cases hz:vY C call t s.F with
  |none=>simp [hz] at hs
  |some z1=>
   rw [hz,aa] at hs
   rw [ah,List.range'_succ,wpOps_cons]
   have h0:=hf 0 t rfl
   refine y9f hT hC (hout _ _ h0.1) h0.1 h0.2 h hz fun s' a' w' G' hF hr=> ?_
   refine ygA hT hC hout hQ T (i+1) (fun j t hj=> ?_) hr (by rw [hF];exact hs)
   have:=hf (j+1) t (by simpa using hj)
   rw [show i+(j+1)=i+1+j by omega] at this
   exact this
theorem yd6 (l:List Dop):l.map (Zw [])=l:=by
 have:Zw []=id:=funext fun x=>by
  unfold Zw
  split
  ·simp
  ·rfl
 rw [this,List.map_id]
theorem yfk (hT:TOk C P) (hC:qM H0 C P call) (hout: ∀ (i:Nat) (o:Oper),ops[i]? =some o→Out o) {L:List Dop} (hfit:yJS ops L) {R:Type} {k:St→Option R} {r:R} {n:Nat} (h:Rel P w0 lent H0 s a w G) (he:vU C call false n L s k=some r)
  (hQ: ∀ s' a' w' G',k s'=some r→Rel P w0 lent H0 s' a' w' G'→Q .normal a' w'):wpOps P ops Q (List.range ops.size) a w:=by
 obtain ⟨T,s',hf,hk⟩:=yiZ n false L [] s k r (by rw [yd6];exact he) (by simp)
 have hlen:T.length=ops.size:=by
  rw [← hfit.1,← hf.x,cG]
 rw [List.range_eq_range',← hlen]
 refine ygA hT hC hout (z:=s'.F) (fun s2 a2 w2 G2 hF hr=>hQ s' a2 w2 G2 hk ?_) T 0 (fun j t hj=> ?_) h hf.steps
 ·have ht:s2.t=s'.t:=congrArg FS.t hF
  have ho:yF s2.o=yF s'.o:=congrArg FS.lk hF
  exact hr.congr ht.symm fun i=>(congrFun ho i).symm
 ·rw [aK]
  refine hfit.2 j t.x ?_
  rw [← hf.x,bH,hj]
  rfl
end
section
variable {C:Ctx} {call:C.Sem} {ops:Array Oper}
structure NM (z:FS) (i:Nat):Prop where
 t:i∉Yt z.t
 lk:z.lk i=none
 ob: ∀ j x,z.lk j=some x→i∉x.ids
mutual
theorem A.not_forget (i:Nat): ∀ x:A,i∉(x.forget i).ids
 | .own o=>by by_cases h:o=i<;>simp [A.forget,h,yp,yB,A.ids]<;>exact fun e=>h e.symm
 | .box b off=>by by_cases h:b=i<;>simp [A.forget,h,yp,yB,A.ids]<;>exact fun e=>h e.symm
 | .rtp o _ _=>by by_cases h:o=i<;>simp [A.forget,h,yp,yB,A.ids]<;>exact fun e=>h e.symm
 | .bep o _ _ _=>by by_cases h:o=i<;>simp [A.forget,h,yp,yB,A.ids]<;>exact fun e=>h e.symm
 | .bor o _ _=>by by_cases h:o=i<;>simp [A.forget,h,yp,yB,A.ids]<;>exact fun e=>h e.symm
 | .win o _=>by by_cases h:o=i<;>simp [A.forget,h,yp,yB,A.ids]<;>exact fun e=>h e.symm
 | .tl o _=>by by_cases h:o=i<;>simp [A.forget,h,yp,yB,A.ids]<;>exact fun e=>h e.symm
 | .clo _ b=>by by_cases h:b=i<;>simp [A.forget,h,yp,yB,A.ids]<;>exact fun e=>h e.symm
 | .agg l=>by simpa [A.forget,A.ids] using Q6 i l
 | .tup l=>by simpa [A.forget,A.ids] using Q6 i l
 | .dead| .und| .val _ _| .nils| .nilp| .elp _ _ _ _ _| .top _ _ _| .fn _=>by simp [A.forget,A.ids]
theorem Q6 (i:Nat): ∀ l:List A,i∉Yt (zy i l)
 |[]=>by simp [zy,Yt]
 |a::l=>by simp [zy,Yt,A.not_forget i a,Q6 i l]
end
mutual
theorem A.ids_forget (i:Nat): ∀ (x:A) (j:Nat),j∈(x.forget i).ids→j∈x.ids
 | .own o,j,h=>by by_cases h1:o=i<;>simp [A.forget,h1,yp,yB,A.ids] at h ⊢;exact h
 | .box b off,j,h=>by by_cases h1:b=i<;>simp [A.forget,h1,yp,yB,A.ids] at h ⊢;exact h
 | .rtp o _ _,j,h=>by by_cases h1:o=i<;>simp [A.forget,h1,yp,yB,A.ids] at h ⊢;exact h
 | .bep o _ _ _,j,h=>by by_cases h1:o=i<;>simp [A.forget,h1,yp,yB,A.ids] at h ⊢;exact h
 | .bor o _ _,j,h=>by by_cases h1:o=i<;>simp [A.forget,h1,yp,yB,A.ids] at h ⊢;exact h
 | .win o _,j,h=>by by_cases h1:o=i<;>simp [A.forget,h1,yp,yB,A.ids] at h ⊢;exact h
 | .tl o _,j,h=>by by_cases h1:o=i<;>simp [A.forget,h1,yp,yB,A.ids] at h ⊢;exact h
 | .clo _ b,j,h=>by by_cases h1:b=i<;>simp [A.forget,h1,yp,yB,A.ids] at h ⊢;exact h
 | .agg l,j,h=>by
  simp only [A.forget,A.ids] at*
  exact vZ i l j h
 | .tup l,j,h=>by
  simp only [A.forget,A.ids] at*
  exact vZ i l j h
 | .dead,_,h| .und,_,h| .val _ _,_,h| .nils,_,h| .nilp,_,h| .elp _ _ _ _ _,_,h| .fn _,_,h=>h
theorem vZ (i:Nat): ∀ (l:List A) (j:Nat),j∈Yt (zy i l)→j∈Yt l
 |[],j,h=>h
 |a::l,j,h=>by
  simp only [zy,Yt,aF] at*
  exact h.imp (A.ids_forget i a j) (vZ i l j)
end
theorem Ob.not_forget (i:Nat) (x:Ob):i∉(x.forget i).ids:=by cases x<;>simp [Ob.forget,Ob.ids,Q6 i]
theorem Ob.ids_forget (i:Nat) (x:Ob) (j:Nat) (h:j∈(x.forget i).ids):j∈x.ids:=by
 cases x with
 |box cs=>exact vZ i cs j h
 |_=>exact h
theorem NM.forget_self (z:FS) (i:Nat):NM (z.forget i) i:=⟨Q6 i z.t,by simp [FS.forget],fun j x hx=>by
 simp only [FS.forget] at hx
 split at hx
 ·cases hx
 ·obtain ⟨y,_,rfl⟩:=aq.1 hx
  exact Ob.not_forget i y⟩
theorem NM.forget {z:FS} {i:Nat} (h:NM z i) (j:Nat):NM (z.forget j) i:=⟨fun hi=>h.t (vZ j z.t i hi),by simp [FS.forget,h.lk],fun m x hx hi=>by
 simp only [FS.forget] at hx
 split at hx
 ·cases hx
 ·obtain ⟨y,hy,rfl⟩:=aq.1 hx
  exact h.ob m y hy (Ob.ids_forget j y i hi)⟩
theorem NM.forgetAll {i:Nat}: ∀ (M:List Nat) {z:FS},NM z i→NM (z.forgetAll M) i
 |[],_,h=>h
 |j::M,_,h=>NM.forgetAll M (h.forget j)
theorem NM.forgetAll_self {i:Nat}: ∀ (M:List Nat) (z:FS),i∈M→NM (z.forgetAll M) i
 |j::M,z,h=>by
  rcases aA.1 h with rfl|h
  ·exact NM.forgetAll M (NM.forget_self z i)
  ·exact NM.forgetAll_self M _ h
theorem ylB {i:Nat} (d:Nat) (a:A): ∀ l:List A,i∈Yt (l.set d a)→i∈Yt l∨i∈a.ids:=by
 intro l
 induction l generalizing d with
 |nil=>intro h;simp [Yt] at h
 |cons b l ih=>
  intro h
  cases d with
  |zero=>
   simp only [List.set_cons_zero,Yt,aF] at*
   rcases h with h|h
   ·exact .inr h
   ·exact .inl (.inr h)
  |succ d=>
   simp only [List.set_cons_succ,Yt,aF] at*
   rcases h with h|h
   ·exact .inl (.inl h)
   ·exact (ih d h).imp .inr id
theorem NM.put {z:FS} {i:Nat} (h:NM z i) (d:Option Nat) {a:A} (ha:i∉a.ids):NM (z.put d a) i:=by
 cases d with
 |none=>exact h
 |some d=>exact ⟨fun hi=>(ylB d a z.t hi).elim h.t ha,h.lk,h.ob⟩
theorem NM.kill {i:Nat}: ∀ (D:List Nat) {z:FS},NM z i→NM (z.kill D) i
 |[],_,h=>h
 |d::D,_,h=>NM.kill D (h.put (some d) (by simp [A.ids]))
theorem NM.make {z:FS} {i:Nat} (h:NM z i) {j:Nat} {x:Ob} (hj:i≠j) (hx:i∉x.ids):NM (z.make j x) i:=⟨fun hi=>h.t (vZ j z.t i hi),by simp [FS.make,hj,h.lk],fun m y hy hi=>by
 simp only [FS.make] at hy
 split at hy
 ·injection hy with hy
  subst hy
  exact hx hi
 ·obtain ⟨u,hu,rfl⟩:=aq.1 hy
  exact h.ob m u hu (Ob.ids_forget j u i hi)⟩
theorem NM.set {z:FS} {i:Nat} (h:NM z i) {j:Nat} {x:Ob} (hx:i∉x.ids):NM (z.set j x) i:=⟨h.t,by
 simp only [FS.set]
 split
 ·simp [h.lk]
 ·exact h.lk,fun m y hy hi=>by
 simp only [FS.set] at hy
 split at hy
 ·obtain ⟨u,hu,rfl⟩:=aq.1 hy
  exact hx hi
 ·exact h.ob m y hy hi⟩
theorem NM.makeAll {i:Nat}: ∀ (l:List (Nat×Ob)) {z:FS},NM z i→i∉y8t l→NM (z.makeAll l) i
 |[],_,h,_=>h
 |(j,x)::l,_,h,hi=>by
  simp only [y8t,aA,aF,not_or] at hi
  exact NM.makeAll l (h.make hi.1 hi.2.1) hi.2.2
theorem NM.setAll {i:Nat}: ∀ (l:List (Nat×Ob)) {z:FS},NM z i→i∉y8t l→NM (z.setAll l) i
 |[],_,h,_=>h
 |(j,x)::l,_,h,hi=>by
  simp only [y8t,aA,aF,not_or] at hi
  exact NM.setAll l (h.set hi.2.1) hi.2.2
def Eff.speaks (e:Eff):List Nat:=e.a.ids++(y8t e.sets++y8t e.adds)
theorem NM.apply {z:FS} {i:Nat} (h:NM z i) {d:Option Nat} {e:Eff} (hi:i∉e.speaks):NM (z.apply d e) i:=by
 simp only [Eff.speaks,aF,not_or] at hi
 exact ((h.makeAll _ hi.2.2).setAll _ hi.2.1).put d hi.1
theorem FS.make_put {z:FS} {i:Nat} {x:Ob} {d:Option Nat} {a:A} (h:a.forget i=a):(z.put d a).make i x=(z.make i x).put d a:=by
 cases d with
 |none=>rfl
 |some d=>
  refine FS.ext ?_ rfl
  show zy i (z.t.set d a)=(zy i z.t).set d a
  rw [y7G,h]
theorem FS.make_set {z:FS} {i j:Nat} {x y:Ob} (hij:i≠j) (h:y.forget i=y):(z.set j y).make i x=(z.make i x).set j y:=by
 refine FS.ext rfl (funext fun m=> ?_)
 show (if m=i then some x else (if m=j then (z.lk m).map (fun _=>y) else z.lk m).map (·.forget i))=(if m=j then (if m=i then some x else (z.lk m).map (·.forget i)).map (fun _=>y) else (if m=i then some x else (z.lk m).map (·.forget i)))
 by_cases h1:m=i
 ·subst h1
  simp [hij]
 ·by_cases h2:m=j
  ·subst h2
   simp only [h1,aU,aB]
   cases z.lk m with
   |none=>rfl
   |some u=>simp [h]
  ·simp [h1,h2]
theorem FS.make_make {z:FS} {i j:Nat} {x y:Ob} (hij:i≠j) (hx:x.forget j=x) (hy:y.forget i=y):(z.make j y).make i x=(z.make i x).make j y:=by
 refine FS.ext (kY j i z.t) (funext fun m=> ?_)
 show (if m=i then some x else (if m=j then some y else (z.lk m).map (·.forget j)).map (·.forget i))=(if m=j then some y else (if m=i then some x else (z.lk m).map (·.forget i)).map (·.forget j))
 by_cases h1:m=i
 ·subst h1
  simp [hij,hx]
 ·by_cases h2:m=j
  ·subst h2
   simp [h1,hy]
  ·simp only [h1,h2,aU]
   cases z.lk m with
   |none=>rfl
   |some u=>simp [Ob.forget_comm i j u]
theorem FS.make_setAll {i:Nat} {x:Ob}: ∀ (S:List (Nat×Ob)) (z:FS),i∉y8t S→(z.setAll S).make i x=(z.make i x).setAll S
 |[],_,_=>rfl
 |(j,y)::S,z,h=>by
  simp only [y8t,aA,aF,not_or] at h
  rw [FS.setAll,FS.make_setAll S _ h.2.2,FS.make_set h.1 (Ob.forget_none y h.2.1),FS.setAll]
theorem FS.make_makeAll {i:Nat} {x:Ob}: ∀ (X:List (Nat×Ob)) (z:FS),i∉y8t X→(∀ j∈zp X,j∉x.ids)→(z.makeAll X).make i x=(z.make i x).makeAll X
 |[],_,_,_=>rfl
 |(j,y)::X,z,h,hx=>by
  simp only [y8t,aA,aF,not_or] at h
  rw [FS.makeAll,FS.make_makeAll X _ h.2.2 (fun m hm=>hx m (by simp [zp,hm])),FS.make_make h.1 (Ob.forget_none x (hx j (by simp [zp]))) (Ob.forget_none y h.2.1),FS.makeAll]
theorem FS.makeAll_apply {d:Option Nat} {e:Eff}: ∀ (Y:List (Nat×Ob)) (z:FS),(∀ i∈zp Y,i∉e.speaks)→(∀ i∈y8t Y,i∉zp e.adds)→(z.apply d e).makeAll Y=(z.makeAll Y).apply d e
 |[],_,_,_=>rfl
 |(i,x)::Y,z,h1,h2=>by
  have hi:=h1 i (by simp [zp])
  simp only [Eff.speaks,aF,not_or] at hi
  have hx: ∀ j∈zp e.adds,j∉x.ids:=fun j hj hm=>h2 j (by simp [y8t,hm]) hj
  have:(z.apply d e).make i x=(z.make i x).apply d e:=by
   rw [FS.apply,FS.make_put (A.forget_none e.a hi.1),FS.make_setAll _ _ hi.2.1,FS.make_makeAll _ _ hi.2.2 hx,FS.apply]
  rw [FS.makeAll,this,FS.makeAll_apply Y _ (fun j hj=>h1 j (by simp [zp,hj])) (fun j hj=>h2 j (by simp [y8t,hj])),FS.makeAll]
theorem FS.set_put {z:FS} {j:Nat} {x:Ob} {d:Option Nat} {a:A}:(z.put d a).set j x=(z.set j x).put d a:=by cases d<;>rfl
theorem FS.setAll_put: ∀ (S:List (Nat×Ob)) (z:FS) (d:Option Nat) (a:A),(z.put d a).setAll S=(z.setAll S).put d a
 |[],_,_,_=>rfl
 |(j,x)::S,z,d,a=>by rw [FS.setAll,FS.set_put,FS.setAll_put S,FS.setAll]
theorem FS.put_put_comm {z:FS} {d d':Option Nat} {a a':A} (h: ∀ i,d=some i→d'≠some i):(z.put d a).put d' a'=(z.put d' a').put d a:=by
 cases d with
 |none=>cases d'<;>rfl
 |some i=>
  cases d' with
  |none=>rfl
  |some j=>exact FS.put_comm z (fun e=>h i rfl (by rw [e])) a a'
theorem FS.setAll_makeAll: ∀ (X S:List (Nat×Ob)) (z:FS),(∀ i∈zp X,i∉y8t S)→(z.setAll S).makeAll X=(z.makeAll X).setAll S
 |[],_,_,_=>rfl
 |(i,x)::X,S,z,h=>by
  rw [FS.makeAll,FS.make_setAll S z (h i (by simp [zp])),FS.setAll_makeAll X S _ (fun j hj=>h j (by simp [zp,hj])),FS.makeAll]
theorem FS.makeAll_put: ∀ (X:List (Nat×Ob)) (z:FS) (d:Option Nat) (a:A),(∀ i∈zp X,i∉a.ids)→(z.put d a).makeAll X=(z.makeAll X).put d a
 |[],_,_,_,_=>rfl
 |(i,x)::X,z,d,a,h=>by
  rw [FS.makeAll,FS.make_put (A.forget_none a (h i (by simp [zp]))),FS.makeAll_put X _ d a (fun j hj=>h j (by simp [zp,hj])),FS.makeAll]
theorem FS.set_set {z:FS} {i j:Nat} {x y:Ob} (h:i≠j):(z.set i x).set j y=(z.set j y).set i x:=by
 refine FS.ext rfl (funext fun m=> ?_)
 show (if m=j then (if m=i then (z.lk m).map (fun _=>x) else z.lk m).map (fun _=>y) else (if m=i then (z.lk m).map (fun _=>x) else z.lk m))=(if m=i then (if m=j then (z.lk m).map (fun _=>y) else z.lk m).map (fun _=>x) else (if m=j then (z.lk m).map (fun _=>y) else z.lk m))
 by_cases h1:m=i
 ·subst h1
  simp [h]
 ·simp [h1]
theorem FS.set_setAll {i:Nat} {x:Ob}: ∀ (S:List (Nat×Ob)) (z:FS),i∉zp S→(z.set i x).setAll S=(z.setAll S).set i x
 |[],_,_=>rfl
 |(j,y)::S,z,h=>by
  simp only [zp,aA,not_or] at h
  rw [FS.setAll,FS.set_set h.1,FS.set_setAll S _ h.2,FS.setAll]
theorem FS.setAll_setAll: ∀ (S S':List (Nat×Ob)) (z:FS),(∀ i∈zp S,i∉zp S')→(z.setAll S).setAll S'=(z.setAll S').setAll S
 |[],_,_,_=>rfl
 |(i,x)::S,S',z,h=>by
  rw [FS.setAll,FS.setAll_setAll S S' _ (fun j hj=>h j (by simp [zp,hj])),FS.set_setAll S' z (h i (by simp [zp])),FS.setAll]
theorem FS.apply_apply {z:FS} {d d':Option Nat} {e e':Eff} (hs: ∀ i∈zp e.sets,i∉zp e'.sets) (h1: ∀ i∈zp e'.adds,i∉e.speaks) (h2: ∀ i∈zp e.adds,i∉e'.speaks) (hd: ∀ i,d=some i→d'≠some i):(z.apply d e).apply d' e'=(z.apply d' e').apply d e:=by
 have h3: ∀ i∈y8t e'.adds,i∉zp e.adds:=fun i hi hm=>h2 i hm (by simp [Eff.speaks,hi])
 have h4: ∀ i∈zp e.adds,i∉e'.a.ids:=fun i hi hm=>h2 i hi (by simp [Eff.speaks,hm])
 have h5: ∀ i∈zp e.adds,i∉y8t e'.sets:=fun i hi hm=>h2 i hi (by simp [Eff.speaks,hm])
 rw [FS.apply,FS.makeAll_apply _ _ h1 h3]
 simp only [FS.apply]
 rw [FS.setAll_put,FS.put_put_comm hd,FS.makeAll_put _ _ _ _ h4,FS.setAll_put,FS.setAll_makeAll _ _ _ h5]
 congr 2
 exact FS.setAll_setAll _ _ _ hs
end
section
variable {C:Ctx} {call:C.Sem} {ops:Array Oper}
section
variable (C:Ctx) (call:C.Sem)
def yj1:TS→FS→Option Eff
 | .run x,z=>if met z x.g then (jb C call (Nat.beq x.hn 2) (Nat.beq x.hn 3) x.o z.opd (x.see z.lk) some).bind fun e=>if x.ok (x.see z.lk) e then some e else none else none
 | .skip x,z=>if y7F z x.g then some ⟨[],[],.und⟩ else none
 | .pick _ _ _,_=>none
end
def TS.isP:TS→Bool
 | .pick _ _ _=>true
 |_=>false
theorem y2b {t:TS} (ht:t.isP=false) (z:FS):vY C call t z=(yj1 C call t z).map (z.apply t.x.o.dst):=by
 cases t with
 |run x=>
  simp only [vY,yj1,TS.x]
  split
  ·cases jb C call (Nat.beq x.hn 2) (Nat.beq x.hn 3) x.o z.opd (x.see z.lk) some with
   |none=>rfl
   |some e=>
    simp only [aa]
    split<;>rfl
  ·rfl
 |skip x=>
  simp only [vY,yj1,TS.x]
  split<;>rfl
 |pick _ _ _=>simp [TS.isP] at ht
theorem yd7 {t:TS} (ht:t.isP=true) (hp:y4s t.x.o=false) (z:FS):vY C call t z=none:=by
 cases t with
 |pick x M D=>
  simp only [vY]
  split
  ·split
   ·rename_i hop
    simp [y4s,TS.x,hop] at hp
   ·rfl
  ·rfl
 |_=>simp [TS.isP] at ht
structure EffOk (x:Dop) (z:FS) (e:Eff):Prop where
 cls0:x.cls=0→e.sets=[]
 cls1:x.cls=1→y4r (x.see z.lk) e.sets=true
 cls3:x.cls=3→y23 (x.see z.lk) e.sets=true
 cls4:x.cls=4→ ∀ i∈zp e.sets,i∈x.fp
 adds: ∀ i∈zp e.adds,i∈x.mine
 later: ∀ i∈x.later,i∉e.speaks
theorem ygB: ∀ {X Y:List Nat},ynq X Y=true→ ∀ i∈X,i∈Y:=by
 intro X
 induction X with
 |nil=>intro Y _ i hi;simp at hi
 |cons j X ihX=>
  intro Y h i hi
  simp only [ynq,al] at h
  rcases aA.1 hi with rfl|hi
  ·exact JE.1 h.1
  ·exact ihX h.2 i hi
theorem y9Z {t:TS} {z:FS} {e:Eff} (h:yj1 C call t z=some e):EffOk t.x z e:=by
 cases t with
 |run x=>
  simp only [yj1] at h
  split at h
  ·cases he:jb C call (Nat.beq x.hn 2) (Nat.beq x.hn 3) x.o z.opd (x.see z.lk) some with
   |none=>simp [he] at h
   |some e'=>
    simp only [he,aa] at h
    split at h
    ·rename_i hok
     injection h with h
     subst h
     unfold Dop.ok at hok
     simp only [al] at hok
     refine ⟨fun hc=> ?_,fun hc=> ?_,fun hc=> ?_,fun hc=> ?_,ygB hok.1.2,fun i hi=> ?_⟩
     ·have h1:=hok.1.1
      simp only [TS.x] at hc
      rw [hc] at h1
      cases hs:e'.sets with
      |nil=>rfl
      |cons _ _=>simp [hs,vT] at h1
     ·have h1:=hok.1.1
      simp only [TS.x] at hc
      rw [hc] at h1
      exact h1
     ·have h1:=hok.1.1
      simp only [TS.x] at hc
      rw [hc] at h1
      exact h1
     ·have h1:=hok.1.1
      simp only [TS.x] at hc
      rw [hc] at h1
      exact ygB h1
     ·have h1:=hok.2
      simp only [TS.x] at hi
      rcases (by simpa using h1:vT x.later=true∨y3x x.later (e'.a.ids++(y8t e'.sets++y8t e'.adds))=true) with h2|h2
      ·cases hl:x.later with
       |nil=>rw [hl] at hi;simp at hi
       |cons _ _=>simp [hl,vT] at h2
      ·exact Q5 h2 i hi
    ·cases h
  ·cases h
 |skip x=>
  simp only [yj1] at h
  split at h
  ·injection h with h
   subst h
   exact ⟨fun _=>rfl,fun _=>rfl,fun _=>rfl,fun _=>by simp [zp],by simp [zp],by simp [Eff.speaks,A.ids,y8t]⟩
  ·cases h
 |pick _ _ _=>simp [yj1] at h
structure Loose (ops:Array Oper) (x y:Dop):Prop where
 apart:y8Q ops x.o y.o=true
 pick:y4s x.o=false
 cls:x.cls=0∨y.cls=0∨(x.cls=4∧y.cls=4∧ ∀ i∈x.fp,i∉y.fp)
 vis:y.cls=0∨(y.cls=1∧(x.vis=0∨x.vis=1))∨(y.cls=3∧(x.vis=0∨x.vis=3))∨x.vis=0∨y.cls=4
 fp: ∀ i∈y.fp,i∈x.bad
 bad: ∀ i∈y.mine,i∈x.bad
 later: ∀ i∈y.mine,i∈x.later
theorem yd8: ∀ (X:List (Nat×Ob)) (z:FS),(∀ i∈zp X,i∉Yt z.t)→(z.makeAll X).t=z.t
 |[],_,_=>rfl
 |(i,x)::X,z,h=>by
  have h0:(z.make i x).t=z.t:=wN _ (h i (by simp [zp]))
  rw [FS.makeAll,yd8 X _ (fun j hj=>by rw [h0];exact h j (by simp [zp,hj])),h0]
theorem y3e {i:Nat}: ∀ (X:List (Nat×Ob)) (z:FS),i∉zp X→(∀ m∈zp X,∀ ob,z.lk i=some ob→m∉ob.ids)→(z.makeAll X).lk i=z.lk i
 |[],_,_,_=>rfl
 |(m,x)::X,z,hi,h=>by
  simp only [zp,aA,not_or] at hi
  have h0:(z.make m x).lk i=z.lk i:=by
   simp only [FS.make,hi.1,aU]
   cases hl:z.lk i with
   |none=>rfl
   |some ob=>simp [Ob.forget_none ob (h m (by simp [zp]) ob hl)]
  rw [FS.makeAll,y3e X _ hi.2 (fun n hn ob hob=>by rw [h0] at hob;exact h n (by simp [zp,hn]) ob hob),h0]
theorem yd9: ∀ (S:List (Nat×Ob)) (z:FS),(z.setAll S).t=z.t
 |[],_=>rfl
 |(i,x)::S,z=>yd9 S (z.set i x)
theorem yuj (z:FS) (d:Option Nat) (a:A):(z.put d a).lk=z.lk:=by cases d<;>rfl
def yfl (lk:Lk) (i:Nat):Option Ob:=match lk i with
 |some (.box cs)=>some (.box cs)
 |_=>none
theorem y9g {i:Nat}: ∀ (S:List (Nat×Ob)) (z:FS),(∀ p∈S,(match p.2 with| .box _=>false|_=>true)=true)→(∀ p∈S,∀ cs,z.lk p.1≠some (.box cs))→yfl (z.setAll S).lk i=yfl z.lk i
 |[],_,_,_=>rfl
 |(j,x)::S,z,h1,h2=>by
  have hx:=h1 (j,x) (by simp)
  have hz:=h2 (j,x) (by simp)
  have h0: ∀ m,yfl (z.set j x).lk m=yfl z.lk m:=fun m=>by
   unfold yfl
   simp only [FS.set]
   by_cases hm:m=j
   ·subst hm
    simp only [aB]
    cases hl:z.lk m with
    |none=>rfl
    |some ob=>
     cases ob with
     |box cs=>exact absurd hl (hz cs)
     |root _ _ _ _=>cases x<;>simp_all
     |deep _ _ _ _ _=>cases x<;>simp_all
     |gone=>cases x<;>simp_all
   ·simp [hm]
  rw [FS.setAll,y9g S _ (fun p hp=>h1 p (by simp [hp])) (fun p hp cs hc=> ?_),h0]
  have:=h0 p.1
  unfold yfl at this
  rw [hc] at this
  cases hl:z.lk p.1 with
  |none=>simp [hl] at this
  |some ob=>
   cases ob with
   |box cs'=>exact h2 p (by simp [hp]) cs' hl
   |_=>simp [hl] at this
theorem ynz (x:Dop) {lk:Lk} {i:Nat} {ob:Ob} (h:x.see lk i=some ob):lk i=some ob:=by
 unfold Dop.see at h
 cases hb:qR x.bad i with
 |true=>simp [hb] at h
 |false=>
  simp only [hb,ag] at h
  split at h
  ·cases h
  ·cases hl:lk i with
   |none=>simp [hl] at h
   |some y=>cases y<;>simp [hl] at h ⊢ <;>exact h
  ·cases hl:lk i with
   |none=>simp [hl] at h
   |some y=>cases y<;>simp [hl] at h ⊢ <;>exact h
  ·exact h
theorem y3G {lk:Lk}: ∀ {S:List (Nat×Ob)},y23 lk S=true→ ∀ p∈S,(∃ cs,lk p.1=some (.box cs))∧(match p.2 with| .box _=>true|_=>false)=true
 |[],_,p,hp=>by simp at hp
 |(i,x)::S,h,p,hp=>by
  simp only [y23,al] at h
  rcases aA.1 hp with rfl|hp
  ·have h1:=h.1
   split at h1
   ·rename_i cs hl
    exact ⟨⟨cs,hl⟩,h1⟩
   ·cases h1
  ·exact y3G h.2 p hp
def yda:Option Ob→Option Ob
 |some (.root own e ts xs)=>some (.root own e ts xs)
 |some (.deep fin tag e ts xs)=>some (.deep fin tag e ts xs)
 |_=>none
theorem y9h {i:Nat}: ∀ (S:List (Nat×Ob)) (z:FS),(∀ p∈S,(match p.2 with| .box _=>true|_=>false)=true)→(∀ p∈S,yda (z.lk p.1)=none)→yda ((z.setAll S).lk i)=yda (z.lk i)
 |[],_,_,_=>rfl
 |(j,x)::S,z,h1,h2=>by
  have hx:=h1 (j,x) (by simp)
  have hj:yda (z.lk j)=none:=h2 (j,x) (by simp)
  have hs: ∀ m,yda ((z.set j x).lk m)=yda (z.lk m):=by
   intro m
   by_cases hi:m=j
   ·subst hi
    rw [hj]
    cases x with
    |box cs=>cases hl:z.lk m<;>simp [FS.set,hl,yda]
    |_=>cases hx
   ·simp [FS.set,hi]
  rw [FS.setAll,y9h S _ (fun p hp=>h1 p (by simp [hp])) (fun p hp=>(hs p.1).trans (h2 p (by simp [hp]))),hs]
theorem y4K {lk:Lk}: ∀ {S:List (Nat×Ob)},y4r lk S=true→ ∀ p∈S,(∃ ob,lk p.1=some ob∧ ∀ cs,ob≠ .box cs)∧(match p.2 with| .box _=>false|_=>true)=true
 |[],_,p,hp=>by simp at hp
 |(i,x)::S,h,p,hp=>by
  simp only [y4r,al] at h
  rcases aA.1 hp with rfl|hp
  ·have h1:=h.1
   split at h1
   ·rename_i own e ts xs hl
    exact ⟨⟨_,hl,fun cs h=>by cases h⟩,h1⟩
   ·rename_i fin tag e ts xs hl
    exact ⟨⟨_,hl,fun cs h=>by cases h⟩,h1⟩
   ·cases h1
  ·exact y4K h.2 p hp
theorem y61 {i:Nat}: ∀ (S:List (Nat×Ob)) (z:FS),i∉zp S→(z.setAll S).lk i=z.lk i
 |[],_,_=>rfl
 |(j,x)::S,z,h=>by
  simp only [zp,aA,not_or] at h
  rw [FS.setAll,y61 S _ h.2]
  simp [FS.set,h.1]
theorem yhU {x y:Dop} (hyx:Loose ops y x) {z:FS} {e:Eff} (he:EffOk x z e) (nm: ∀ i∈x.mine,NM z i):y.see (z.apply x.o.dst e).lk=y.see z.lk:=by
 funext i
 unfold Dop.see
 cases hb:qR y.bad i with
 |true=>rfl
 |false=>
  have hi:i∉zp e.adds:=fun hm=>by
   rw [JE.2 (hyx.bad i (he.adds i hm))] at hb
   cases hb
  have hmk:(z.makeAll e.adds).lk i=z.lk i:=y3e _ _ hi (fun m hm ob hob=>(nm m (he.adds m hm)).ob i ob hob)
  simp only [ag]
  rw [FS.apply,yuj]
  rcases hyx.vis with hc|⟨hc,hv⟩|⟨hc,hv⟩|hv|hc
  ·rw [he.cls0 hc]
   simp only [FS.setAll,hmk]
  ·have hro:=y4K (he.cls1 hc)
   have hbx:=y9g (i:=i) e.sets (z.makeAll e.adds) (fun p hp=>(hro p hp).2) (fun p hp cs hcs=>by
    obtain ⟨ob',hl,hnb⟩:=(hro p hp).1
    have hl':=ynz x hl
    have hp':p.1∉zp e.adds:=fun hm=>by
     rw [(nm _ (he.adds _ hm)).lk] at hl'
     cases hl'
    rw [y3e _ _ hp' (fun m hm ob hob=>(nm m (he.adds m hm)).ob p.1 ob hob),hl'] at hcs
    injection hcs with hcs
    exact hnb cs hcs)
   rcases hv with hv|hv
   ·rw [hv]
    rfl
   ·rw [hv]
    unfold yfl at hbx
    rw [hmk] at hbx
    exact hbx
  ·have hbo:=y3G (he.cls3 hc)
   have hrw:=y9h (i:=i) e.sets (z.makeAll e.adds) (fun p hp=>(hbo p hp).2) (fun p hp=>by
    obtain ⟨cs,hl⟩:=(hbo p hp).1
    have hl':=ynz x hl
    have hp':p.1∉zp e.adds:=fun hm=>by
     rw [(nm _ (he.adds _ hm)).lk] at hl'
     cases hl'
    rw [y3e _ _ hp' (fun m hm ob hob=>(nm m (he.adds m hm)).ob p.1 ob hob),hl']
    rfl)
   rcases hv with hv|hv
   ·rw [hv]
    rfl
   ·rw [hv]
    unfold yda at hrw
    rw [hmk] at hrw
    exact hrw
  ·rw [hv]
   rfl
  ·have hi2:i∉zp e.sets:=fun hm=>by
    rw [JE.2 (hyx.fp i (he.cls4 hc i hm))] at hb
    cases hb
   have hs:(((z.makeAll e.adds).setAll e.sets).lk i)=z.lk i:=(y61 e.sets _ hi2).trans hmk
   rw [hs]
theorem ylC {l:List Nat} {d:Option Nat} (h:yDu l d=false): ∀ c∈l,d≠some c:=by
 intro c hc e
 subst e
 simp only [yDu] at h
 rw [JE.2 hc] at h
 cases h
theorem ydb: ∀ {l:List Operand} {c:Nat},.tmp c∈l→c∈y5m l
 |x::l,c,h=>by
  rcases aA.1 h with h|h
  ·subst h
   simp [y5m]
  ·have:=ydb h
   cases x<;>simp [y5m,this]
theorem y9i {x:Dop} {z:FS} {e:Eff} (he:EffOk x z e) (nm: ∀ i∈x.mine,NM z i) {c:Nat} (hc:x.o.dst≠some c):(z.apply x.o.dst e).opd (.tmp c)=z.opd (.tmp c):=by
 have ht:((z.makeAll e.adds).setAll e.sets).t=z.t:=by
  rw [yd9,yd8 _ _ (fun i hi=>(nm i (he.adds i hi)).t)]
 unfold FS.apply
 cases hd:x.o.dst with
 |none=>
  show ((z.makeAll e.adds).setAll e.sets).t.getD c .dead=_
  rw [ht]
  rfl
 |some d=>
  have hne:d≠c:=fun h=>hc (by rw [hd,h])
  show (((z.makeAll e.adds).setAll e.sets).t.set d e.a).getD c .dead=z.t.getD c .dead
  rw [ht,au,bl hne,au]
theorem y9j {x:Dop} {t:TS} (hg:jX ops t.x.o=some t.x.g) (hyx:Loose ops t.x x) {z:FS} {e:Eff} (he:EffOk x z e) (nm: ∀ i∈x.mine,NM z i):yj1 C call t (z.apply x.o.dst e)=yj1 C call t z:=by
 have hap:=hyx.apart
 unfold y8Q at hap
 simp only [al,bd] at hap
 have hask:=ylC hap.1.2
 have hguard: ∀ c v,t.x.g=some (c,v)→(z.apply x.o.dst e).opd (.tmp c)=z.opd (.tmp c):=fun c v hgv=>by
  refine y9i he nm (hask c ?_)
  rw [hgv] at hg
  simp [yl8,hg]
 have hmet:met (z.apply x.o.dst e) t.x.g=met z t.x.g:=by
  cases hgv:t.x.g with
  |none=>rfl
  |some p=>
   obtain ⟨c,v⟩:=p
   simp only [met,FS.bool,hguard c v hgv]
 have hunmet:y7F (z.apply x.o.dst e) t.x.g=y7F z t.x.g:=by
  cases hgv:t.x.g with
  |none=>rfl
  |some p=>
   obtain ⟨c,v⟩:=p
   simp only [y7F,hguard c v hgv]
 cases t with
 |run y=>
  have hops: ∀ u∈y.o.op.operands,(z.apply x.o.dst e).opd u=z.opd u:=fun u hu=>by
   cases u with
   |tmp c=>
    refine y9i he nm (hask c ?_)
    simp only [TS.x,yl8,aF]
    exact .inr (ydb (by simpa using hu))
   |_=>rfl
  simp only [TS.x] at hmet hyx
  simp only [yj1,hmet,yhU hyx he nm]
  rw [yhN some hops]
 |skip y=>
  simp only [TS.x] at hunmet
  simp only [yj1,hunmet]
 |pick _ _ _=>rfl
theorem yMI {tx ty:TS} (hgx:jX ops tx.x.o=some tx.x.g) (hgy:jX ops ty.x.o=some ty.x.g) (hxy:Loose ops tx.x ty.x) (hyx:Loose ops ty.x tx.x) {z z1 z2:FS} (nmx: ∀ i∈tx.x.mine,NM z i) (nmy: ∀ i∈ty.x.mine,NM z i)
  (h1:vY C call tx z=some z1) (h2:vY C call ty z1=some z2): ∃ z1',vY C call ty z=some z1'∧vY C call tx z1'=some z2:=by
 cases hpx:tx.isP with
 |true=>
  rw [yd7 hpx hxy.pick] at h1
  cases h1
 |false=>
  cases hpy:ty.isP with
  |true=>
   rw [yd7 hpy hyx.pick] at h2
   cases h2
  |false=>
   rw [y2b hpx] at h1
   rw [y2b hpy] at h2
   obtain ⟨ex,hex,rfl⟩:=aq.1 h1
   obtain ⟨ey,hey,rfl⟩:=aq.1 h2
   have okx:=y9Z hex
   rw [y9j hgy hyx okx nmx] at hey
   have oky:=y9Z hey
   have hex':=y9j (C:=C) (call:=call) hgx hxy oky nmy
   rw [hex] at hex'
   refine ⟨z.apply ty.x.o.dst ey,by rw [y2b hpy,hey];rfl,?_⟩
   rw [y2b hpx,hex',ci]
   congr 1
   refine (FS.apply_apply ?_ ?_ ?_ ?_).symm
   ·rcases hxy.cls with h|h|⟨h,h',hd⟩
    ·rw [okx.cls0 h]
     intro i hi
     simp [zp] at hi
    ·rw [oky.cls0 h]
     intro i _ hi
     simp [zp] at hi
    ·exact fun i hi hj=>hd i (okx.cls4 h i hi) (oky.cls4 h' i hj)
   ·exact fun i hi=>okx.later i (hxy.later i (oky.adds i hi))
   ·exact fun i hi=>oky.later i (hyx.later i (okx.adds i hi))
   ·have hap:=hxy.apart
    unfold y8Q at hap
    simp only [al] at hap
    intro i hi hj
    have:=hap.2
    simp [hi,hj,yp] at this
end
section
variable {P:Program} {C:Ctx} {w0:World} {lent:Nat→Prop} {H0:Base} {s:St} {a:Act} {w:World} {G:Gh} {call:C.Sem} {ops:Array Oper} {K:Act→World→Prop} {Q:Exit→Act→World→Prop}
theorem y62: ∀ (l l':List Oper) (acc:List Nat),Q0 (l++l') acc=Q0 l' (Q0 l acc)
 |[],_,_=>rfl
 |o::l,l',acc=>y62 l l' _
theorem y7K: ∀ (l:List Oper) (acc:List Nat),∃ t,Q0 l acc=acc++t∧t.length=l.length
 |[],acc=>⟨[],by simp [Q0],rfl⟩
 |o::l,acc=>by
  obtain ⟨t,h,hl⟩:=y7K l (acc++[y5l acc o.after.toList])
  exact ⟨y5l acc o.after.toList::t,by rw [Q0,h];simp,by simp [hl]⟩
theorem y5t {acc:List Nat} {j:Nat}: ∀ (es:List Edge),(y5l acc es).testBit j=true→ ∃ e∈es,Region.binds .any e=true∧(e.on=j∨(acc.getD e.on 0).testBit j=true)
 |[],h=>by simp [y5l] at h
 |e::es,h=>by
  rw [y5l] at h
  cases hb:Region.binds .any e with
  |false=>
   rw [hb,ag] at h
   obtain ⟨e',h1,h2⟩:=y5t es h
   exact ⟨e',by simp [h1],h2⟩
  |true=>
   rw [hb,ai,cM,cM,ck,ck] at h
   rcases h with (h|h)|h
   ·refine ⟨e,by simp,hb,.inl ?_⟩
    rw [Nat.testBit_two_pow] at h
    simpa using h
   ·exact ⟨e,by simp,hb,.inr h⟩
   ·obtain ⟨e',h1,h2⟩:=y5t es h
    exact ⟨e',by simp [h1],h2⟩
theorem ygC {acc:List Nat} {e:Edge} (hb:Region.binds .any e=true): ∀ (es:List Edge),e∈es→(y5l acc es).testBit e.on=true
 |f::es,h=>by
  rw [y5l]
  rcases aA.1 h with rfl|h
  ·rw [hb,ai,cM,cM,Nat.testBit_two_pow_self]
   rfl
  ·have:=ygC (acc:=acc) hb es h
   cases Region.binds .any f with
   |false=>exact this
   |true=>rw [ai,cM,this,Bool.or_true]
theorem ygD {ops:Array Oper} {i:Nat} {o:Oper} (h:ops[i]? =some o): ∃ acc:List Nat,(Q0 ops.toList []).getD i 0=y5l acc o.after.toList∧ ∀ j,(acc.getD j 0)=if j<i then (Q0 ops.toList []).getD j 0 else 0:=by
 have hl:ops.toList[i]? =some o:=by simpa using h
 obtain ⟨l1,l2,hs,hlen⟩: ∃ l1 l2,ops.toList=l1++o::l2∧l1.length=i:=by
  have hlt:=(av.1 hl).1
  refine ⟨ops.toList.take i,ops.toList.drop (i+1),?_,by rw [ak];omega⟩
  have h2:=(av.1 hl).2
  rw [← h2,List.getElem_cons_drop,List.take_append_drop]
 obtain ⟨t1,h1,k1⟩:=y7K l1 []
 rw [aT] at h1
 obtain ⟨t2,h2,k2⟩:=y7K l2 (t1++[y5l t1 o.after.toList])
 have hm:Q0 ops.toList []=t1++[y5l t1 o.after.toList]++t2:=by rw [hs,y62,h1,Q0,h2]
 have hi:t1.length=i:=by rw [k1,hlen]
 refine ⟨t1,?_,fun j=> ?_⟩
 ·rw [hm,bo,au,az (by omega)]
  simp [hi]
 ·split
  ·rename_i hj
   rw [hm,bo,au,au,aE (by omega)]
  ·rename_i hj
   rw [au,bE (by omega)]
   rfl
structure Drawn (C:Ctx) (ops:Array Oper) (L:List Dop):Prop where
 fit:yJS ops L
 mine: ∀ (i:Nat) (x:Dop),L[i]? =some x→x.mine=y0I C x.o
 loose: ∀ (i j:Nat) (x y:Dop),L[i]? =some x→L[j]? =some y→i≠j→ynt (Q0 ops.toList []) i j=false→Loose ops x y
 later: ∀ (i j:Nat) (x y:Dop),L[i]? =some x→L[j]? =some y→i≠j→((Q0 ops.toList []).getD i 0).testBit j=false→ ∀ m∈y.mine,m∈x.later
 lt: ∀ (i:Nat) (x:Dop),L[i]? =some x→(Q0 ops.toList []).getD i 0<2 ^ i
def ynA (a t:Nat):Prop:=a=0∨a=t∨yns t=0
theorem yj2 (a b:Nat):ynA a (yix a b):=by
 unfold yix ynA
 cases a with
 |zero=>exact .inl rfl
 |succ a=>
  cases b with
  |zero=>exact .inr (.inl rfl)
  |succ b=>
   by_cases h:a+1=b+1
   ·rw [h]
    simp [yp]
   ·simp [yB h,yns]
theorem yhV {a b c:Nat} (h:ynA a b):ynA a (yix c b):=by
 unfold yix
 cases c with
 |zero=>exact h
 |succ c=>
  cases b with
  |zero=>
   rcases h with h|h|h
   ·exact .inl h
   ·exact .inl h
   ·simp [yns] at h
  |succ b=>
   by_cases hcb:c+1=b+1
   ·simp only [hcb,yp,ai]
    exact h
   ·simp only [yB hcb,ag]
    exact .inr (.inr rfl)
theorem ypC {a t v:Nat} (hv:v=yns t) (h:ynA a t):a=0∨(a=1∧(v=0∨v=1))∨(a=3∧(v=0∨v=3))∨v=0:=by
 subst hv
 rcases h with h|rfl|h
 ·exact .inl h
 ·unfold yns
  split
  ·exact .inl rfl
  ·exact .inr (.inl ⟨rfl,.inr rfl⟩)
  ·exact .inr (.inr (.inl ⟨rfl,.inr rfl⟩))
  ·exact .inr (.inr (.inr rfl))
 ·exact .inr (.inr (.inr h))
theorem yuk {a b:Nat} {X Y:List Nat} (h:(Nat.beq a 0=true∨Nat.beq b 0=true)∨(Nat.beq a 4=true∧Nat.beq b 4=true)∧y3x X Y=true):a=0∨b=0∨(a=4∧b=4∧ ∀ i∈X,i∉Y):=by
 rcases h with (h|h)|⟨⟨h1,h2⟩,h3⟩
 ·exact .inl (an h)
 ·exact .inr (.inl (an h))
 ·exact .inr (.inr ⟨an h1,an h2,fun i hi=>Q5 h3 i hi⟩)
theorem ypD {a t v:Nat} (hv:v=yns t) (h:ynA (ytM a) t):a=0∨(a=1∧(v=0∨v=1))∨(a=3∧(v=0∨v=3))∨v=0∨a=4:=by
 by_cases ha:a=4
 ·exact .inr (.inr (.inr (.inr ha)))
 ·have hn:ytM a=a:=by simp [ytM,yB ha]
  rw [hn] at h
  rcases ypC hv h with h|h|h|h
  ·exact .inl h
  ·exact .inr (.inl h)
  ·exact .inr (.inr (.inl h))
  ·exact .inr (.inr (.inr (.inl h)))
theorem y9k {h0:List Nat} {ms:List Nat}: ∀ (l:List Oper) (i:Nat) (L:List Dop),ycG C h0 ops ms i l=some L→L.length=l.length∧ ∀ (k:Nat) (x:Dop),L[k]? =some x→l[k]? =some x.o∧jX ops x.o=some x.g∧
  (Q1 C h0 ops ms (i+k) x.o 0 ops.toList).ok=true∧x.vis=yns (Q1 C h0 ops ms (i+k) x.o 0 ops.toList).top∧x.cls=y24 C h0 x.o∧x.bad=(Q1 C h0 ops ms (i+k) x.o 0 ops.toList).bad∧x.later=(Q1 C h0 ops ms (i+k) x.o 0 ops.toList).later∧x.mine=y0I C x.o∧x.fp=fpO h0 x.o∧ms.getD (i+k) 0<2 ^ (i+k)
 |[],i,L,h=>by
  simp only [ycG,ap] at h
  subst h
  exact ⟨rfl,fun k x hk=>by simp at hk⟩
 |o::r,i,L,h=>by
  simp only [ycG] at h
  cases hg:jX ops o with
  |none=>simp [hg] at h
  |some g=>
   cases hl:ycG C h0 ops ms (i+1) r with
   |none=>simp [hg,hl] at h
   |some l=>
    simp only [hg,hl] at h
    cases hb:(Q1 C h0 ops ms i o 0 ops.toList).ok&&Nat.blt (ms.getD i 0) (2 ^ i) with
    |false=>
     rw [hb,ag] at h
     cases h
    |true=>
     rw [hb,ai] at h
     injection h with h
     subst h
     simp only [al] at hb
     obtain ⟨h1,h2⟩:=y9k r (i+1) l hl
     refine ⟨by simp [h1],fun k x hk=> ?_⟩
     cases k with
     |zero=>
      simp only [bz,ap] at hk
      subst hk
      exact ⟨rfl,hg,hb.1,rfl,rfl,rfl,rfl,rfl,rfl,wM hb.2⟩
     |succ k=>
      have:=h2 k x (by simpa using hk)
      rw [show i+1+k=i+(k+1) by omega] at this
      simpa using this
theorem y44 {h0:List Nat} {ms:List Nat} {i:Nat} {o:Oper}: ∀ (l:List Oper) (j:Nat),(Q1 C h0 ops ms i o j l).ok=true→ ∀ (k:Nat) (y:Oper),l[k]? =some y→i≠j+k→
  (ynt ms i (j+k)=false→y8Q ops o y=true∧y4s o=false∧y4s y=false∧(y24 C h0 o=0∨y24 C h0 y=0∨(y24 C h0 o=4∧y24 C h0 y=4∧ ∀ i∈fpO h0 o,i∉fpO h0 y))∧ynA (ytM (y24 C h0 y)) (Q1 C h0 ops ms i o j l).top∧(∀ m∈y0I C y,m∈(Q1 C h0 ops ms i o j l).bad)∧(∀ m∈fpO h0 y,m∈(Q1 C h0 ops ms i o j l).bad))∧
  ((ms.getD i 0).testBit (j+k)=false→ ∀ m∈y0I C y,m∈(Q1 C h0 ops ms i o j l).later)
 |[],j,_,k,y,hk,_=>by simp at hk
 |z::l,j,hok,k,y,hk,hne=>by
  rw [Q1] at hok ⊢
  have rest: ∀ (g:Gathered),g=Q1 C h0 ops ms i o (j+1) l→g.ok=true→ ∀ (k:Nat),l[k]? =some y→i≠j+(k+1)→
    (ynt ms i (j+(k+1))=false→y8Q ops o y=true∧y4s o=false∧y4s y=false∧(y24 C h0 o=0∨y24 C h0 y=0∨(y24 C h0 o=4∧y24 C h0 y=4∧ ∀ i∈fpO h0 o,i∉fpO h0 y))∧ynA (ytM (y24 C h0 y)) g.top∧(∀ m∈y0I C y,m∈g.bad)∧(∀ m∈fpO h0 y,m∈g.bad))∧((ms.getD i 0).testBit (j+(k+1))=false→ ∀ m∈y0I C y,m∈g.later):=by
   intro g hg hgok k hk hne
   subst hg
   have:=y44 l (j+1) hgok k y hk (by omega)
   rw [show j+1+k=j+(k+1) by omega] at this
   exact this
  generalize hgg:Q1 C h0 ops ms i o (j+1) l=g at hok ⊢
  cases hij:Nat.beq i j with
  |true=>
   have:=an hij
   subst this
   simp only [hij,ai] at hok ⊢
   cases k with
   |zero=>exact absurd rfl hne
   |succ k=>exact rest g hgg.symm hok k (by simpa using hk) hne
  |false=>
   simp only [hij,ag] at hok ⊢
   cases ht:ynt ms i j with
   |true=>
    simp only [ht,ai] at hok ⊢
    cases hb:(ms.getD i 0).testBit j with
    |true=>
     simp only [hb,ai] at hok ⊢
     cases k with
     |zero=>exact ⟨fun h=>(by rw [bS,ht] at h;cases h),fun h=>(by rw [bS,hb] at h;cases h)⟩
     |succ k=>exact rest g hgg.symm hok k (by simpa using hk) hne
    |false=>
     simp only [hb,ag] at hok ⊢
     cases k with
     |zero=>
      simp only [bz,ap] at hk
      subst hk
      exact ⟨fun h=>(by rw [bS,ht] at h;cases h),fun _ m hm=>cn _ hm⟩
     |succ k=>
      obtain ⟨r1,r2⟩:=rest g hgg.symm hok k (by simpa using hk) hne
      exact ⟨r1,fun h m hm=>bK _ (r2 h m hm)⟩
   |false=>
    simp only [ht,ag,al,bd,ck] at hok ⊢
    obtain ⟨⟨⟨⟨hgok,hap⟩,hpo⟩,hpy⟩,hcl⟩:=hok
    cases k with
    |zero=>
     simp only [bz,ap] at hk
     subst hk
     exact ⟨fun _=>⟨hap,hpo,hpy,yuk hcl,yj2 _ _,fun m hm=>cn _ hm,fun m hm=>bK _ (cn _ hm)⟩,fun _ m hm=>cn _ hm⟩
    |succ k=>
     obtain ⟨r1,r2⟩:=rest g hgg.symm hgok k (by simpa using hk) hne
     refine ⟨fun h=> ?_,fun h m hm=>bK _ (r2 h m hm)⟩
     obtain ⟨a1,a2,a3,a4,a5,a6,a7⟩:=r1 h
     exact ⟨a1,a2,a3,a4,yhV a5,fun m hm=>bK _ (bK _ (a6 m hm)),fun m hm=>bK _ (bK _ (a7 m hm))⟩
theorem ylD {h0:List Nat} {L:List Dop} (h:ycG C h0 ops (Q0 ops.toList []) 0 ops.toList=some L):Drawn C ops L:=by
 obtain ⟨hlen,hsp⟩:=y9k _ _ _ h
 have hat: ∀ (i:Nat) (x:Dop),L[i]? =some x→ops.toList[i]? =some x.o:=fun i x hx=>(hsp i x hx).1
 refine ⟨⟨by simpa using hlen,fun i x hx=>⟨by simpa using hat i x hx,(hsp i x hx).2.1⟩⟩,fun i x hx=>(hsp i x hx).2.2.2.2.2.2.2.1,fun i j x y hx hy hne ht=> ?_,fun i j x y hx hy hne hb m hm=> ?_,fun i x hx=> ?_⟩
 ·obtain ⟨_,_,hok,hvis,hcls,hbad,hlater,hmine,hfp,_⟩:=hsp i x hx
  obtain ⟨_,_,_,_,hcls',_,_,hmine',hfp',_⟩:=hsp j y hy
  rw [aK] at hok hvis hbad hlater
  have:=y44 (C:=C) (ops:=ops) ops.toList 0 hok j y.o (hat j y hy) (by omega)
  rw [aK] at this
  obtain ⟨h1,h2⟩:=this
  obtain ⟨a1,a2,a3,a4,a5,a6,a7⟩:=h1 ht
  have htb:((Q0 ops.toList []).getD i 0).testBit j=false:=by
   unfold ynt at ht
   simp only [aL] at ht
   exact ht.1
  exact ⟨a1,a2,by rw [hcls,hcls',hfp,hfp'];exact a4,by rw [hcls'];exact ypD hvis a5,fun m hm=>by rw [hbad];exact a7 m (by rw [← hfp'];exact hm),fun m hm=>by rw [hbad];exact a6 m (by rw [← hmine'];exact hm),fun m hm=>by rw [hlater];exact h2 htb m (by rw [← hmine'];exact hm)⟩
 ·obtain ⟨_,_,hok,hvis,hcls,hbad,hlater,hmine,hfp,_⟩:=hsp i x hx
  obtain ⟨_,_,_,_,hcls',_,_,hmine',hfp',_⟩:=hsp j y hy
  rw [aK] at hok hlater
  have:=y44 (C:=C) (ops:=ops) ops.toList 0 hok j y.o (hat j y hy) (by omega)
  rw [aK] at this
  rw [hlater]
  exact this.2 hb m (by rw [← hmine'];exact hm)
 ·have:=(hsp i x hx).2.2.2.2.2.2.2.2.2
  rwa [aK] at this
theorem NM.step {t:TS} {z z1:FS} (h:vY C call t z=some z1) {m:Nat} (nm:NM z m) (hm:m∈t.x.later):NM z1 m:=by
 cases hp:t.isP with
 |false=>
  rw [y2b hp] at h
  obtain ⟨e,he,rfl⟩:=aq.1 h
  exact nm.apply ((y9Z he).later m hm)
 |true=>
  cases t with
  |pick x M D=>
   simp only [vY] at h
   split at h
   ·split at h
    ·rename_i c x1 x2 hop
     cases hc:z.bool c with
     |none=>simp [hc] at h
     |some v=>
      cases hu:z.bool (if v then x1 else x2) with
      |none=>simp [hc,hu] at h
      |some u=>
       simp only [hc,hu,aa,ap] at h
       subst h
       exact ((nm.forgetAll M).kill D).put _ (by simp [A.ids])
    ·cases h
   ·cases h
  |_=>simp [TS.isP] at hp
theorem ynB {t:TS} (hgt:jX ops t.x.o=some t.x.g) (B:List TS) {zf:FS}: ∀ (A:List TS) (z:FS),k8 C call (A++t::B) z=some zf→(∀ p∈A,jX ops p.x.o=some p.x.g∧Loose ops p.x t.x∧Loose ops t.x p.x)→(∀ m∈t.x.mine,NM z m)→(∀ p∈A,∀ m∈p.x.mine,NM z m)→
  A.Pairwise (fun p q=> ∀ m∈q.x.mine,m∈p.x.later)→k8 C call (t::(A++B)) z=some zf
 |[],z,h,_,_,_,_=>h
 |p::A,z,h,hA,hn,hnA,hpw=>by
  rw [bp,k8] at h
  cases hz:vY C call p z with
  |none=>simp [hz] at h
  |some z1=>
   rw [hz,aa] at h
   have hpw':=bq.1 hpw
   obtain ⟨hgp,hpt,htp⟩:=hA p (by simp)
   have ih:=ynB hgt B A z1 h (fun q hq=>hA q (by simp [hq])) (fun m hm=>NM.step hz (hn m hm) (hpt.later m hm)) (fun q hq m hm=>NM.step hz (hnA q (by simp [hq]) m hm) (hpw'.1 q hq m hm)) hpw'.2
   rw [k8] at ih
   cases hz2:vY C call t z1 with
   |none=>simp [hz2] at ih
   |some z2=>
    rw [hz2,aa] at ih
    obtain ⟨z1',h1,h2⟩:=yMI hgp hgt hpt htp (hnA p (by simp)) hn hz hz2
    rw [k8,h1,aa,bp,k8,h2,aa]
    exact ih
structure Pend (ops:Array Oper) (L:List Dop) (listed:Array Bool) (Tp:List (Nat×TS)) (z:FS):Prop where
 idx:Tp.Pairwise (fun p q=>p.1<q.1)
 mem: ∀ p∈Tp,L[p.1]? =some p.2.x
 un: ∀ p∈Tp,listed.getD p.1 true=false
 all: ∀ i,i<ops.size→listed.getD i true=false→ ∃ t,(i,t)∈Tp
 size:listed.size=ops.size
 dn: ∀ i,listed.getD i false=true→ ∀ j,((Q0 ops.toList []).getD i 0).testBit j=true→listed.getD j false=true
 nm: ∀ p∈Tp,∀ m∈p.2.x.mine,NM z m
theorem ydc {l:Array Bool} {i:Nat} (h:i<l.size):l.getD i true=l.getD i false:=by simp [bu,h]
theorem yj3 (hT:TOk C P) (hC:qM H0 C P call) (hout: ∀ (i:Nat) (o:Oper),ops[i]? =some o→Out o) {L:List Dop} (hD:Drawn C ops L) {zf:FS} (hQ: ∀ s' a' w' G',s'.F=zf→Rel P w0 lent H0 s' a' w' G'→Q .normal a' w'): ∀ (fuel:Nat) (listed:Array Bool) (Tp:List (Nat×TS)) {s:St} {a:Act} {w:World} {G:Gh},
  Pend ops L listed Tp s.F→Tp.length=fuel→k8 C call (Tp.map (·.2)) s.F=some zf→Rel P w0 lent H0 s a w G→wpAny P .any ops Q fuel listed a w:=by
 intro fuel
 induction fuel with
 |zero=>
  intro listed Tp s a w G hp hl hs hr
  have:Tp=[]:=aP.1 hl
  subst this
  refine ⟨?_,hQ s a w G (by injection hs) hr⟩
  cases hrd:Region.ready .any ops listed with
  |nil=>rfl
  |cons i r=>
   have hi:i∈Region.ready .any ops listed:=by rw [hrd];simp
   obtain ⟨h1,o,ho,_⟩:=mem_ready.1 hi
   obtain ⟨t,ht⟩:=hp.all i (aM.1 ho).1 h1
   simp at ht
 |succ fuel ih=>
  intro listed Tp s a w G hp hl hs hr
  have hbit: ∀ (i:Nat) (x:Dop),L[i]? =some x→ ∀ j,i≤j→((Q0 ops.toList []).getD i 0).testBit j=false:=fun i x hx j hj=>
   Nat.testBit_lt_two_pow (bL (hD.lt i x hx) (Nat.pow_le_pow_right (by omega) hj))
  have hsz: ∀ (i:Nat) (x:Dop),L[i]? =some x→i<ops.size:=fun i x hx=>(aM.1 (hD.fit.2 i x hx).1).1
  refine ⟨fun hnil=> ?_,fun i hi=> ?_⟩
  ·cases Tp with
   |nil=>simp at hl
   |cons p0 Tp=>
    obtain ⟨i0,t0⟩:=p0
    have hx0:=hp.mem (i0,t0) (by simp)
    have ho0:=(hD.fit.2 i0 t0.x hx0).1
    have:i0∈Region.ready .any ops listed:=by
     refine mem_ready.2 ⟨hp.un (i0,t0) (by simp),t0.x.o,ho0,fun e he hb=> ?_⟩
     obtain ⟨acc,hacc,_⟩:=ygD ho0
     have hup:=ygC (acc:=acc) hb t0.x.o.after.toList (by simpa using he)
     rw [← hacc] at hup
     have hlt:e.on<i0:=by
      rcases Nat.lt_or_ge e.on i0 with h|h
      ·exact h
      ·rw [hbit i0 _ hx0 e.on h] at hup
       cases hup
     have hlt2:e.on<listed.size:=by
      rw [hp.size]
      exact Nat.lt_trans hlt (hsz i0 _ hx0)
     cases hle:listed.getD e.on false with
     |true=>rfl
     |false=>
      rw [← ydc hlt2] at hle
      obtain ⟨t,ht⟩:=hp.all e.on (by rw [← hp.size];exact hlt2) hle
      rcases aA.1 ht with ht|ht
      ·injection ht with h1 _
       omega
      ·have:=(bq.1 hp.idx).1 _ ht
       simp only at this
       omega
    rw [hnil] at this
    simp at this
  ·obtain ⟨hun,o,ho,hall⟩:=mem_ready.1 hi
   obtain ⟨t,ht⟩:=hp.all i (aM.1 ho).1 hun
   obtain ⟨A,B,rfl⟩:=List.append_of_mem ht
   have hxi:=hp.mem (i,t) ht
   obtain ⟨hoi,hgi⟩:=hD.fit.2 i t.x hxi
   have hidx:=List.pairwise_append.1 hp.idx
   have hA: ∀ p∈A,p.1<i:=fun p hpA=>hidx.2.2 p hpA (i,t) (by simp)
   have hB: ∀ p∈B,i<p.1:=fun p hpB=>(bq.1 hidx.2.1).1 p hpB
   have hmA: ∀ p∈A,L[p.1]? =some p.2.x:=fun p hpA=>hp.mem p (by simp [hpA])
   have hmB: ∀ p∈B,L[p.1]? =some p.2.x:=fun p hpB=>hp.mem p (by simp [hpB])
   have hdone: ∀ j,((Q0 ops.toList []).getD i 0).testBit j=true→listed.getD j false=true:=fun j hj=>by
    obtain ⟨acc,hacc,hacc2⟩:=ygD ho
    rw [hacc] at hj
    obtain ⟨e,he,hb,hj⟩:=y5t _ hj
    have hon:=hall e (by simpa using he) hb
    rcases hj with rfl|hj
    ·exact hon
    ·rw [hacc2] at hj
     split at hj
     ·exact hp.dn e.on hon j hj
     ·simp at hj
   have hnot: ∀ p∈A,((Q0 ops.toList []).getD i 0).testBit p.1=false:=fun p hpA=>by
    cases hb:((Q0 ops.toList []).getD i 0).testBit p.1 with
    |false=>rfl
    |true=>
     have h1:=hdone p.1 hb
     have h2:=hp.un p (by simp [hpA])
     rw [ydc (by rw [hp.size];exact hsz _ _ (hmA p hpA)),h1] at h2
     cases h2
   have hloose: ∀ p∈A,jX ops p.2.x.o=some p.2.x.g∧Loose ops p.2.x t.x∧Loose ops t.x p.2.x:=fun p hpA=>by
    have hlt:=hA p hpA
    have h1:=hbit p.1 _ (hmA p hpA) i (by omega)
    refine ⟨(hD.fit.2 _ _ (hmA p hpA)).2,hD.loose p.1 i _ _ (hmA p hpA) hxi (by omega) ?_,hD.loose i p.1 _ _ hxi (hmA p hpA) (by omega) ?_⟩
    ·simp [ynt,h1,hnot p hpA,-List.getD_eq_getElem?_getD]
    ·simp [ynt,h1,hnot p hpA,-List.getD_eq_getElem?_getD]
   rw [List.map_append,bB] at hs
   have hbub:=ynB (C:=C) (call:=call) hgi (B.map (·.2)) (A.map (·.2)) s.F hs (fun q hq=>by
    obtain ⟨p,hpA,rfl⟩:=b_.1 hq
    exact hloose p hpA) (hp.nm (i,t) ht) (fun q hq=>by
    obtain ⟨p,hpA,rfl⟩:=b_.1 hq
    exact hp.nm p (by simp [hpA])) (by
    rw [cC]
    exact hidx.1.imp_of_mem fun {p q} hpA hqA hlt=>hD.later p.1 q.1 _ _ (hmA p hpA) (hmA q hqA) (by omega) (hbit p.1 _ (hmA p hpA) q.1 (by omega)))
   rw [k8] at hbub
   cases hz:vY C call t s.F with
   |none=>simp [hz] at hbub
   |some z1=>
    rw [hz,aa] at hbub
    refine y9f hT hC (hout _ _ hoi) hoi hgi hr hz fun s' a' w' G' hF hr'=> ?_
    refine ih (listed.setIfInBounds i true) (A++B) ⟨?_,fun p hpm=> ?_,fun p hpm=> ?_,fun j hj hju=> ?_,by simp [hp.size],fun j hj m hm=> ?_,fun p hpm m hm=> ?_⟩ ?_ ?_ hr'
    ·exact List.pairwise_append.2 ⟨hidx.1,(bq.1 hidx.2.1).2,fun p hpA q hqB=>hidx.2.2 p hpA q (by simp [hqB])⟩
    ·rcases aF.1 hpm with h|h
     ·exact hmA p h
     ·exact hmB p h
    ·have hne:i≠p.1:=by
      rcases aF.1 hpm with h|h
      ·have:=hA p h;omega
      ·have:=hB p h;omega
     rw [getD_set_ne true hne]
     refine hp.un p ?_
     rcases aF.1 hpm with h|h<;>simp [h]
    ·have hne:i≠j:=fun e=>by
      subst e
      have hlt:i<listed.size:=by rw [hp.size];exact hj
      simp [bu,hlt] at hju
     rw [getD_set_ne true hne] at hju
     obtain ⟨t',ht'⟩:=hp.all j hj hju
     refine ⟨t',?_⟩
     rcases aF.1 ht' with h|h
     ·simp [h]
     ·rcases aA.1 h with h|h
      ·injection h with h1 _
       exact absurd h1.symm hne
      ·simp [h]
    ·by_cases hij:i=j
     ·subst hij
      exact getD_set_true (hdone m hm)
     ·rw [getD_set_ne false hij] at hj
      exact getD_set_true (hp.dn j hj m hm)
    ·rw [hF]
     refine NM.step hz (hp.nm p (by rcases aF.1 hpm with h|h<;>simp [h]) m hm) ?_
     rcases aF.1 hpm with h|h
     ·exact hD.later i p.1 _ _ hxi (hmA p h) (by have:=hA p h;omega) (hnot p h) m hm
     ·exact hD.later i p.1 _ _ hxi (hmB p h) (by have:=hB p h;omega) (hbit i _ hxi p.1 (by have:=hB p h;omega)) m hm
    ·simp only [ar,ah] at hl ⊢
     omega
    ·rw [hF,List.map_append]
     exact hbub
def num:Nat→List TS→List (Nat×TS)
 |_,[]=>[]
 |i,t::T=>(i,t)::num (i+1) T
theorem yj4: ∀ (T:List TS) (i:Nat),(num i T).map (·.2)=T
 |[],_=>rfl
 |t::T,i=>by simp [num,yj4 T]
theorem yj5: ∀ (T:List TS) (i:Nat),(num i T).length=T.length
 |[],_=>rfl
 |t::T,i=>by simp [num,yj5 T]
theorem ya0 (T:List TS): ∀ (i:Nat) (p:Nat×TS),p∈num i T→ ∃ k,p.1=i+k∧T[k]? =some p.2:=by
 induction T with
 |nil=>intro i p h;simp [num] at h
 |cons t T ih=>
  intro i p h
  rw [num] at h
  rcases aA.1 h with h|h
  ·exact ⟨0,by rw [h,bS],by rw [h];rfl⟩
  ·obtain ⟨k,h1,h2⟩:=ih (i+1) p h
   exact ⟨k+1,by omega,by rw [cr];exact h2⟩
theorem yul (T:List TS): ∀ (i k:Nat) (t:TS),T[k]? =some t→(i+k,t)∈num i T:=by
 induction T with
 |nil=>intro i k t h;simp at h
 |cons u T ih=>
  intro i k t h
  cases k with
  |zero=>
   rw [bz] at h
   injection h with h
   rw [h,num]
   exact bD
  |succ k=>
   rw [cr] at h
   have:=ih (i+1) k t h
   rw [show i+1+k=i+(k+1) by omega] at this
   rw [num]
   exact bI _ this
theorem yum (T:List TS): ∀ i:Nat,(num i T).Pairwise (fun p q=>p.1<q.1):=by
 induction T with
 |nil=>intro i;exact List.Pairwise.nil
 |cons t T ih=>
  intro i
  rw [num]
  refine bq.2 ⟨fun p hp=> ?_,ih (i+1)⟩
  obtain ⟨k,h1,_⟩:=ya0 T (i+1) p hp
  show i<p.1
  omega
theorem yhW (l:List Oper) (o:Oper) (m:Nat) (ho:o∈l) (hm:m∈y0I C o):m∈y8R C l:=by
 induction l with
 |nil=>simp at ho
 |cons x l ih=>
  rw [y8R,aF]
  rcases aA.1 ho with h|h
  ·rw [← h]
   exact .inl hm
  ·exact .inr (ih h)
theorem yhX (hT:TOk C P) (hC:qM H0 C P call) (hout: ∀ (i:Nat) (o:Oper),ops[i]? =some o→Out o) {h0:List Nat} {L:List Dop} (hp:ycG C h0 ops (Q0 ops.toList []) 0 ops.toList=some L) {R:Type} {k:St→Option R} {r:R} {n:Nat} (h:Rel P w0 lent H0 s a w G) (he:vU C call false n L (s.forgetAll (y8R C ops.toList)) k=some r)
  (hQ: ∀ s' a' w' G',k s'=some r→Rel P w0 lent H0 s' a' w' G'→Q .normal a' w'):wpAny P .any ops Q ops.size (Array.replicate ops.size false) a {w with drawn:=w.drawn+1}:=by
 have hD:=ylD hp
 obtain ⟨T,s',hf,hk⟩:=yiZ n false L [] _ k r (by rw [yd6];exact he) (by simp)
 have hlen:T.length=ops.size:=by rw [← hD.fit.1,← hf.x,cG]
 have hat: ∀ (i:Nat) (t:TS),T[i]? =some t→L[i]? =some t.x:=fun i t ht=>by
  rw [← hf.x,bH,ht]
  rfl
 have hr:=(h.forgets (y8R C ops.toList)).heap (w':= {w with drawn:=w.drawn+1}) rfl rfl rfl (aS _) (fun _ _=> .inl rfl)
 refine yj3 hT hC hout hD (zf:=s'.F) (fun s2 a2 w2 G2 hF hr2=>hQ s' a2 w2 G2 hk ?_) ops.size _ (num 0 T) ⟨yum T 0,fun p hpm=> ?_,fun p hpm=> ?_,fun i hi _=> ?_,by simp,fun i hi j _=> ?_,fun p hpm m hm=> ?_⟩ (by rw [yj5,hlen]) (by rw [yj4];exact hf.steps) hr
 ·have ht:s2.t=s'.t:=congrArg FS.t hF
  have ho:yF s2.o=yF s'.o:=congrArg FS.lk hF
  exact hr2.congr ht.symm fun i=>(congrFun ho i).symm
 ·obtain ⟨k,h1,h2⟩:=ya0 T 0 p hpm
  rw [h1,aK]
  exact hat k p.2 h2
 ·obtain ⟨k,h1,h2⟩:=ya0 T 0 p hpm
  have:=(av.1 h2).1
  simp [bu,show p.1<ops.size by omega]
 ·have hlt:i<T.length:=by omega
  exact ⟨T[i],by simpa using yul T 0 i T[i] (aJ hlt)⟩
 ·rw [bu] at hi
  by_cases hlt:i<ops.size<;>simp [hlt] at hi
 ·obtain ⟨k,h1,h2⟩:=ya0 T 0 p hpm
  have hx:=hat k p.2 h2
  rw [y1r]
  refine NM.forgetAll_self _ _ (yhW _ _ _ ?_ (by rw [← hD.mine k _ hx];exact hm))
  have:=(hD.fit.2 k _ hx).1
  exact aV (by simpa using this)
end
section
variable {P:Program} {C:Ctx} {w0:World} {lent:Nat→Prop} {H0:Base} {s:St} {a:Act} {w:World} {G:Gh}
theorem yun (h:Rel P w0 lent H0 s a w G) {o e i c:Nat} {ts:List Ty} {xs:List (yJ ts)} (ho:yF s.o o=some (.root false e ts xs)) {n:Int} {v:Value} (hr:RA G (.rtp o n c) v):RA G (.elp e ts xs n c) v:=by
 obtain ⟨hsz,hpos,hrd,hb⟩:=h.objs o _ ho
 obtain ⟨A,cap,e1,_,_,hx⟩:=hrd
 obtain ⟨hv,hlt⟩:=hr
 rw [hsz] at hlt hv
 simp only at hlt hv
 have hp:0<List.length xs:=by omega
 obtain ⟨ad,ea,hx⟩:=hx hp
 obtain ⟨cap',e2⟩:=hb hp
 rw [e1] at e2
 injection e2 with e3
 rw [ea] at e3
 injection e3 with e3
 refine ⟨ad,?_,hlt,hx⟩
 rw [hv,e3,JR]
mutual
theorem RA.resolve (h:Rel P w0 lent H0 s a w G): ∀ (x:A) (v:Value),RA G x v→RA G (x.resolve (yF s.o)) v
 | .own o,v,hr=>by
  simp only [A.resolve]
  cases ho:yF s.o o with
  |none=>trivial
  |some ob=>
   cases ob with
   |root own e ts xs=>
    cases own with
    |true=>exact hr
    |false=>
     have:=(h.objs o _ ho).2.2.1
     rw [← hr.1] at this
     exact this
   |deep _ _ _ _ _=>exact hr
   |_=>trivial
 | .rtp o i c,v,hr=>by
  simp only [A.resolve]
  cases ho:yF s.o o with
  |none=>trivial
  |some ob=>
   cases ob with
   |root own e ts xs=>
    cases own with
    |true=>exact hr
    |false=>exact yun (i:=0) h ho hr
   |deep _ _ _ _ _=>exact hr
   |_=>trivial
 | .bor o i c,v,hr=>trivial
 | .bep o i c q,v,hr=>trivial
 | .win o q,v,hr=>trivial
 | .tl o q,v,hr=>trivial
 | .top e ts xs,v,hr=>trivial
 | .box b off,v,hr=>by
  simp only [A.resolve]
  cases ho:yF s.o b with
  |none=>trivial
  |some ob=>
   cases ob with
   |box cs=>
    cases hb:Nat.blt b 10000000 with
    |true=>exact hr
    |false=>trivial
   |_=>trivial
 | .clo f b,v,hr=>by
  simp only [A.resolve]
  cases ho:yF s.o b with
  |none=>trivial
  |some ob=>
   cases ob with
   |box cs=>
    cases hb:Nat.blt b 10000000 with
    |true=>exact hr
    |false=>trivial
   |_=>trivial
 | .agg l,v,hr=>by
  obtain ⟨cs,rfl,hl⟩:=hr
  exact ⟨cs,rfl,RL.resolve h l cs hl⟩
 | .tup l,v,hr=>by
  obtain ⟨cs,rfl,hl⟩:=hr
  exact ⟨cs,rfl,RL.resolve h l cs hl⟩
 | .dead,_,_| .und,_,_=>trivial
 | .val _ _,_,hr| .nils,_,hr| .nilp,_,hr| .elp _ _ _ _ _,_,hr| .fn _,_,hr=>hr
theorem RL.resolve (h:Rel P w0 lent H0 s a w G): ∀ (l:List A) (vs:List Value),RL G l vs→RL G (Zb (yF s.o) l) vs
 |[],[],_=>trivial
 |a::l,v::vs,hr=>⟨RA.resolve h a v hr.1,RL.resolve h l vs hr.2⟩
end
theorem y2c (lk:Lk): ∀ (l:List A) (j:Nat),(Zb lk l)[j]? =(l[j]?).map (A.resolve lk)
 |[],j=>by simp [Zb]
 |a::l,0=>by simp [Zb]
 |a::l,j+1=>by simpa [Zb] using y2c lk l j
theorem ya1 (m:Nat→Nat): ∀ (l:List A) (j:Nat),(yeZ m l)[j]? =(l[j]?).map (A.ren m)
 |[],j=>by simp [yeZ]
 |a::l,0=>by simp [yeZ]
 |a::l,j+1=>by simpa [yeZ] using ya1 m l j
theorem ydd (l:List Nat): ∀ (t:List A) (i j:Nat),(y9K l i t)[j]? =(t[j]?).map (fun a=>bif qR l (i+j) then a else .dead)
 |[],i,j=>by simp [y9K]
 |a::t,i,0=>by simp [y9K]
 |a::t,i,j+1=>by
  have:=ydd l t (i+1) j
  rw [show i+1+j=i+(j+1) by omega] at this
  simpa [y9K] using this
def ylE (lk:Lk) (i:Nat):Prop:=(∃ ob,lk i=some ob∧y21 ob)∨((∃ cs,lk i=some (.box cs))∧i<10000000)
mutual
theorem A.resolve_ids (lk:Lk): ∀ (x:A) (i:Nat),i∈(x.resolve lk).ids→ylE lk i
 | .own o,i,h=>by
  simp only [A.resolve] at h
  split at h
  ·rename_i e ts xs ho
   simp only [A.ids,aW] at h
   subst h
   exact .inl ⟨_,ho,.inl ⟨e,ts,xs,rfl⟩⟩
  ·simp [A.ids] at h
  ·rename_i fin tag e ts xs ho
   simp only [A.ids,aW] at h
   subst h
   exact .inl ⟨_,ho,.inr ⟨fin,tag,e,ts,xs,rfl⟩⟩
  ·simp [A.ids] at h
 | .rtp o j c,i,h=>by
  simp only [A.resolve] at h
  split at h
  ·rename_i e ts xs ho
   simp only [A.ids,aW] at h
   subst h
   exact .inl ⟨_,ho,.inl ⟨e,ts,xs,rfl⟩⟩
  ·simp [A.ids] at h
  ·rename_i fin tag e ts xs ho
   simp only [A.ids,aW] at h
   subst h
   exact .inl ⟨_,ho,.inr ⟨fin,tag,e,ts,xs,rfl⟩⟩
  ·simp [A.ids] at h
 | .bor o j c,i,h=>by simp [A.resolve,A.ids] at h
 | .bep o j c q,i,h=>by simp [A.resolve,A.ids] at h
 | .win o q,i,h=>by simp [A.resolve,A.ids] at h
 | .tl o q,i,h=>by simp [A.resolve,A.ids] at h
 | .top e ts xs,i,h=>by simp [A.resolve,A.ids] at h
 | .box b off,i,h=>by
  simp only [A.resolve] at h
  split at h
  ·rename_i cs ho
   cases hb:Nat.blt b 10000000 with
   |true=>
    rw [hb,ai] at h
    simp only [A.ids,aW] at h
    subst h
    exact .inr ⟨⟨cs,ho⟩,wM hb⟩
   |false=>
    rw [hb,ag] at h
    simp [A.ids] at h
  ·simp [A.ids] at h
 | .clo f b,i,h=>by
  simp only [A.resolve] at h
  split at h
  ·rename_i cs ho
   cases hb:Nat.blt b 10000000 with
   |true=>
    rw [hb,ai] at h
    simp only [A.ids,aW] at h
    subst h
    exact .inr ⟨⟨cs,ho⟩,wM hb⟩
   |false=>
    rw [hb,ag] at h
    simp [A.ids] at h
  ·simp [A.ids] at h
 | .agg l,i,h=>by
  simp only [A.resolve,A.ids] at h
  exact VP lk l i h
 | .tup l,i,h=>by
  simp only [A.resolve,A.ids] at h
  exact VP lk l i h
 | .dead,_,h| .und,_,h| .val _ _,_,h| .nils,_,h| .nilp,_,h| .elp _ _ _ _ _,_,h| .fn _,_,h=>by simp [A.resolve,A.ids] at h
theorem VP (lk:Lk): ∀ (l:List A) (i:Nat),i∈Yt (Zb lk l)→ylE lk i
 |[],i,h=>by simp [Zb,Yt] at h
 |a::l,i,h=>by
  simp only [Zb,Yt,aF] at h
  exact h.elim (A.resolve_ids lk a i) (VP lk l i)
end
def Gh.via (G:Gh) (inv:Nat→Nat):Gh:= {H:=G.H,g:=fun i=>G.g (inv i),sv:=fun i=>G.sv (inv i),sz:=fun i=>G.sz (inv i),dp:=fun i=>G.dp (inv i),hd:=fun i=>G.hd (inv i),pv:=G.pv}
mutual
theorem RA.ren {G:Gh} {m inv:Nat→Nat}: ∀ (x:A) (v:Value),RA G x v→(∀ i∈x.ids,inv (m i)=i)→RA (G.via inv) (x.ren m) v
 | .own o,v,hr,hi=>by
  have:=hi o (by simp [A.ids])
  simp only [A.ren,RA,Gh.via,this] at*
  exact hr
 | .rtp o i c,v,hr,hi=>by
  have:=hi o (by simp [A.ids])
  simp only [A.ren,RA,Gh.via,this] at*
  exact hr
 | .bor o i c,v,hr,hi=>by
  have:=hi o (by simp [A.ids])
  simp only [A.ren,RA,Gh.via,this] at*
  exact hr
 | .bep o i c q,v,hr,hi=>by
  have:=hi o (by simp [A.ids])
  simp only [A.ren,RA,Gh.via,this] at*
  exact hr
 | .win o q,v,hr,hi=>by
  have:=hi o (by simp [A.ids])
  simp only [A.ren,RA,Gh.via,this] at*
  exact hr
 | .tl o q,v,hr,hi=>by
  have:=hi o (by simp [A.ids])
  simp only [A.ren,RA,Gh.via,this] at*
  exact hr
 | .box b off,v,hr,hi=>by
  have:=hi b (by simp [A.ids])
  simp only [A.ren,RA,Gh.via,this] at*
  exact hr
 | .clo f b,v,hr,hi=>by
  have:=hi b (by simp [A.ids])
  simp only [A.ren,RA,Gh.via,this] at*
  exact hr
 | .agg l,v,hr,hi=>by
  obtain ⟨cs,rfl,hl⟩:=hr
  exact ⟨cs,rfl,RL.ren l cs hl (fun i h=>hi i (by simpa [A.ids] using h))⟩
 | .tup l,v,hr,hi=>by
  obtain ⟨cs,rfl,hl⟩:=hr
  exact ⟨cs,rfl,RL.ren l cs hl (fun i h=>hi i (by simpa [A.ids] using h))⟩
 | .dead,_,_,_=>trivial
 | .und,_,hr,_| .val _ _,_,hr,_| .nils,_,hr,_| .nilp,_,hr,_| .elp _ _ _ _ _,_,hr,_| .top _ _ _,_,hr,_| .fn _,_,hr,_=>hr
theorem RL.ren {G:Gh} {m inv:Nat→Nat}: ∀ (l:List A) (vs:List Value),RL G l vs→(∀ i∈Yt l,inv (m i)=i)→RL (G.via inv) (yeZ m l) vs
 |[],[],_,_=>trivial
 |a::l,v::vs,hr,hi=>⟨RA.ren a v hr.1 (fun i h=>hi i (by simp [Yt,h])),RL.ren l vs hr.2 (fun i h=>hi i (by simp [Yt,h]))⟩
end
theorem ya2: ∀ (l seen:List Nat) (i:Nat),i∈l→i∉seen→i∈yhx seen l
 |j::l,seen,i,h,hs=>by
  rw [yhx]
  cases hm:qR seen j with
  |true=>
   rw [ai]
   have hne:i≠j:=fun e=>hs (e ▸ JE.1 hm)
   exact ya2 l seen i ((aA.1 h).resolve_left hne) hs
  |false=>
   rw [ag]
   by_cases hij:i=j
   ·simp [hij]
   ·exact bI _ (ya2 l (j::seen) i ((aA.1 h).resolve_left hij) (by simp [hij,hs]))
theorem ya3: ∀ (l seen:List Nat) (i:Nat),i∈yhx seen l→i∈l∧i∉seen
 |j::l,seen,i,h=>by
  rw [yhx] at h
  cases hm:qR seen j with
  |true=>
   rw [hm,ai] at h
   obtain ⟨h1,h2⟩:=ya3 l seen i h
   exact ⟨by simp [h1],h2⟩
  |false=>
   rw [hm,ag] at h
   rcases aA.1 h with rfl|h
   ·refine ⟨by simp,fun hs=> ?_⟩
    rw [JE.2 hs] at hm
    cases hm
   ·obtain ⟨h1,h2⟩:=ya3 l (j::seen) i h
    simp only [aA,not_or] at h2
    exact ⟨by simp [h1],h2.2⟩
theorem y5u: ∀ (l seen:List Nat),(yhx seen l).Nodup
 |[],_=>by simp [yhx]
 |j::l,seen=>by
  rw [yhx]
  cases hm:qR seen j with
  |true=>exact y5u l seen
  |false=>exact cj.2 ⟨fun h=>(ya3 l (j::seen) j h).2 (by simp),y5u l (j::seen)⟩
theorem y5v (lk:Lk) (i:Nat) (l:List Nat):(∃ ob,lk i=some ob∧y21 ob∧y4t lk (i::l)=(i,ob)::y4t lk l)∨((∀ ob,lk i=some ob→ ¬ y21 ob)∧y4t lk (i::l)=y4t lk l):=by
 rw [y4t]
 cases hi:lk i with
 |none=>exact .inr ⟨fun ob h=>by (cases h),rfl⟩
 |some ob=>
  cases ob with
  |root own e ts xs=>
   cases own with
   |true=>exact .inl ⟨_,rfl,.inl ⟨e,ts,xs,rfl⟩,rfl⟩
   |false=>
    refine .inr ⟨fun ob h how=> ?_,rfl⟩
    injection h with h
    subst h
    rcases how with ⟨_,_,_,h⟩|⟨_,_,_,_,_,h⟩<;>cases h
  |deep fin tag e ts xs=>exact .inl ⟨_,rfl,.inr ⟨fin,tag,e,ts,xs,rfl⟩,rfl⟩
  |_=>
   refine .inr ⟨fun ob h how=> ?_,rfl⟩
   injection h with h
   subst h
   rcases how with ⟨_,_,_,h⟩|⟨_,_,_,_,_,h⟩<;>cases h
theorem y3f (lk:Lk): ∀ (l:List Nat) (p:Nat×Ob),p∈y4t lk l→p.1∈l∧lk p.1=some p.2∧y21 p.2
 |i::l,p,h=>by
  rcases y5v lk i l with ⟨ob,hi,how,he⟩|⟨_,he⟩
  ·rw [he] at h
   rcases aA.1 h with rfl|h
   ·exact ⟨by simp,hi,how⟩
   ·obtain ⟨h1,h2⟩:=y3f lk l p h
    exact ⟨by simp [h1],h2⟩
  ·rw [he] at h
   obtain ⟨h1,h2⟩:=y3f lk l p h
   exact ⟨by simp [h1],h2⟩
theorem y7L (lk:Lk): ∀ (l:List Nat) (i:Nat) (ob:Ob),i∈l→lk i=some ob→y21 ob→i∈zp (y4t lk l)
 |j::l,i,ob,h,hi,how=>by
  rcases y5v lk j l with ⟨ob',_,_,he⟩|⟨hno,he⟩
  ·rw [he]
   rcases aA.1 h with rfl|h
   ·simp [zp]
   ·simp [zp,y7L lk l i ob h hi how]
  ·rw [he]
   rcases aA.1 h with rfl|h
   ·exact absurd how (hno ob hi)
   ·exact y7L lk l i ob h hi how
theorem y45 (lk:Lk): ∀ (l:List Nat),l.Nodup→(zp (y4t lk l)).Nodup
 |[],_=>by simp [y4t,zp]
 |i::l,h=>by
  have hn:=cj.1 h
  rcases y5v lk i l with ⟨ob',_,_,he⟩|⟨_,he⟩
  ·rw [he]
   refine cj.2 ⟨fun hm=> ?_,y45 lk l hn.2⟩
   rw [Kh] at hm
   obtain ⟨p,hp,rfl⟩:=b_.1 hm
   exact hn.1 (y3f lk l p hp).1
  ·rw [he]
   exact y45 lk l hn.2
theorem y21.box {cs:List A} (h:y21 (.box cs)):False:=by rcases h with ⟨_,_,_,h⟩|⟨_,_,_,_,_,h⟩<;>cases h
theorem y21.same {G G':Gh} {i j:Nat} {ob:Ob} (h:y21 ob) (hg:G'.g i=G.g j) (hs:G'.sv i=G.sv j) (hz:G'.sz i=G.sz j) (hd:G'.dp i=G.dp j) (hh:G'.hd i=G.hd j) (hp:G'.pv=G.pv) (hH:G'.H=G.H) {w:World}:(∀ k,ze G' i ob k→ze G j ob k)∧(RO G w j ob→RO G' w i ob):=by
 rcases h with ⟨e,ts,xs,rfl⟩|⟨fin,tag,e,ts,xs,rfl⟩
 ·refine ⟨fun k hk=> ?_,fun hro=> ?_⟩
  ·have hk':(G'.sv i).ownBlock=some k:=hk
   rw [hs] at hk'
   exact hk'
  ·obtain ⟨h1,h2,cells,h3,h4,h5,h6⟩:=hro
   exact ⟨by rw [hz];exact h1,h2,cells,by rw [hs];exact h3,h4,by rw [hs,hg];exact h5,by rw [hH];exact h6⟩
 ·refine ⟨fun k hk=> ?_,fun hro=> ?_⟩
  ·have hk':G'.dp i k:=hk
   rw [hd] at hk'
   exact hk'
  ·obtain ⟨h1,h2,h3,h4,cells,Bs,h5,h6⟩:=hro
   exact ⟨by rw [hz];exact h1,by rw [hd];exact h2,by rw [hs,hp];exact h3,by rw [hs,hg];exact h4,cells,Bs,by rw [hs,hd];exact h5,by rw [hh];exact h6⟩
theorem y5w (lk:Lk): ∀ (l:List Nat) (p:Nat×List A),p∈yhw lk l→ ∃ cs,lk p.1=some (.box cs)∧p.2=Zb lk cs
 |i::l,p,h=>by
  rw [yhw] at h
  split at h
  ·rename_i cs hi
   rcases aA.1 h with rfl|h
   ·exact ⟨cs,hi,rfl⟩
   ·exact y5w lk l p h
  ·exact y5w lk l p h
theorem ygE: ∀ (l:List (Nat×List A)) (p:Nat×List A) (i:Nat),p∈l→i∈Yt p.2→i∈ytN l
 |(j,cs)::l,p,i,hp,hi=>by
  rw [ytN,aF]
  rcases aA.1 hp with rfl|hp
  ·exact .inl hi
  ·exact .inr (ygE l p i hp hi)
theorem ygF: ∀ (rs:List (Nat×Ob)) (n i:Nat),i∈zp rs→ ∃ k,y4u rs n i=n+k∧(zp rs)[k]? =some i
 |(j,x)::rs,n,i,h=>by
  rw [y4u]
  by_cases hj:j=i
  ·subst hj
   rw [yp,ai]
   exact ⟨0,rfl,rfl⟩
  ·rw [yB hj,ag]
   simp only [zp,aA] at h
   obtain ⟨k,h1,h2⟩:=ygF rs (n+1) i (h.resolve_left fun e=>hj e.symm)
   exact ⟨k+1,by omega,by simpa [zp] using h2⟩
theorem yde: ∀ (rs:List (Nat×Ob)) (n i:Nat),i∉zp rs→y4u rs n i=i
 |[],_,_,_=>rfl
 |(j,x)::rs,n,i,h=>by
  simp only [zp,aA,not_or] at h
  rw [y4u,yB (fun e:j=i=>h.1 e.symm),ag]
  exact yde rs (n+1) i h.2
theorem yfm (l l':List (Nat×Ob)) (i:Nat):yF (l++l') i=(yF l i).or (yF l' i):=by
 induction l with
 |nil=>rfl
 |cons p l ih=>
  obtain ⟨j,x⟩:=p
  by_cases hj:j=i
  ·subst hj
   simp [yF,yp]
  ·simp only [bp,yF,yB hj,ag,ih]
theorem ydf (m:Nat→Nat): ∀ (l:List (Nat×List A)) (i:Nat) (ob:Ob),yF (ypm m l) i=some ob→ ∃ cs,(i,cs)∈l∧ob= .box (yeZ m cs)
 |(j,cs)::l,i,ob,h=>by
  rw [ypm,yF] at h
  by_cases hj:j=i
  ·subst hj
   rw [yp,ai] at h
   injection h with h
   exact ⟨cs,by simp,h.symm⟩
  ·rw [yB hj,ag] at h
   obtain ⟨cs',h1,h2⟩:=ydf m l i ob h
   exact ⟨cs',by simp [h1],h2⟩
theorem ydg: ∀ (l:List (Nat×Ob)) (n i:Nat) (ob:Ob),yF (ypn l n) i=some ob→ ∃ k j,i=n+k∧l[k]? =some (j,ob)
 |(j,x)::l,n,i,ob,h=>by
  rw [ypn,yF] at h
  by_cases hj:n=i
  ·subst hj
   rw [yp,ai] at h
   injection h with h
   exact ⟨0,j,rfl,by simp [h]⟩
  ·rw [yB hj,ag] at h
   obtain ⟨k,j',h1,h2⟩:=ydg l (n+1) i ob h
   exact ⟨k+1,j',by omega,by simpa using h2⟩
theorem y4L {n:Nat}: ∀ {l:List Nat},y4v n l=true→ ∀ i∈l,i<n
 |j::l,h,i,hi=>by
  simp only [y4v,al] at h
  rcases aA.1 hi with rfl|hi
  ·exact wM h.1
  ·exact y4L h.2 i hi
theorem Rel.keep (h:Rel P w0 lent H0 s a w G) {l:List Nat} {s':St} (hk:s.keep l=some s'): ∃ G',Rel P w0 lent H0 s' a w G':=by
 unfold St.keep at hk
 generalize ht:Zb (yF s.o) (y9K l 0 s.t)=t at hk
 try simp only at hk
 generalize hbx:yhw (yF s.o) (yhx [] (Yt t))=bx at hk
 try simp only at hk
 generalize hrs:y4t (yF s.o) (yhx [] (Yt t++ytN bx))=rs at hk
 try simp only at hk
 cases hb:y4v 10000000 (zp bx) with
 |false=>simp [hb] at hk
 |true=>
  rw [hb,ai] at hk
  injection hk with hk
  subst hk
  have hlow:=y4L hb
  let inv:Nat→Nat:=fun i=>if 10000000≤i then (zp rs).getD (i - 10000000) i else i
  have hrsp: ∀ p∈rs,yF s.o p.1=some p.2∧y21 p.2:=fun p hp=>by
   rw [← hrs] at hp
   exact (y3f _ _ p hp).2
  have hbxp: ∀ p∈bx,∃ cs,yF s.o p.1=some (.box cs)∧p.2=Zb (yF s.o) cs:=fun p hp=>by
   rw [← hbx] at hp
   exact y5w _ _ p hp
  have hinvk: ∀ (k j:Nat),(zp rs)[k]? =some j→inv (10000000+k)=j:=fun k j hkj=>by
   show (if 10000000≤10000000+k then (zp rs).getD (10000000+k - 10000000) (10000000+k) else 10000000+k)=j
   rw [af (by omega),show 10000000+k - 10000000=k by omega,au,hkj]
   rfl
  have hinvl: ∀ i,i<10000000→inv i=i:=fun i hi=>am (by omega)
  have hid: ∀ i,ylE (yF s.o) i→i∈Yt t++ytN bx→inv (y4u rs 10000000 i)=i:=fun i hkn hm=>by
   rcases hkn with ⟨ob,hi,how⟩|⟨⟨cs,hi⟩,hlt⟩
   ·have:i∈zp rs:=by
     rw [← hrs]
     exact y7L _ _ i ob (ya2 _ _ i hm (by simp)) hi how
    obtain ⟨k,h1,h2⟩:=ygF rs 10000000 i this
    rw [h1]
    exact hinvk k i h2
   ·have:i∉zp rs:=fun hm=>by
     rw [Kh] at hm
     obtain ⟨p,hp,rfl⟩:=b_.1 hm
     obtain ⟨h1,h2⟩:=hrsp p hp
     rw [hi] at h1
     injection h1 with h1
     rw [← h1] at h2
     exact h2.box
    rw [yde _ _ _ this]
    exact hinvl i hlt
  have hlook: ∀ (i:Nat) (ob:Ob),yF (ypm (y4u rs 10000000) bx++ypn rs 10000000) i=some ob→
    (∃ cs,yF s.o i=some (.box cs)∧i<10000000∧(i,Zb (yF s.o) cs)∈bx∧ob= .box (yeZ (y4u rs 10000000) (Zb (yF s.o) cs)))∨(∃ k j,i=10000000+k∧(zp rs)[k]? =some j∧yF s.o j=some ob∧y21 ob):=fun i ob hi=>by
   rw [yfm] at hi
   cases h1:yF (ypm (y4u rs 10000000) bx) i with
   |some ob'=>
    rw [h1] at hi
    have hi':ob'=ob:=by simpa using hi
    subst hi'
    obtain ⟨cs,hm,rfl⟩:=ydf _ _ _ _ h1
    obtain ⟨cs0,hc,hcs⟩:=hbxp _ hm
    simp only at hc hcs
    subst hcs
    refine .inl ⟨cs0,hc,hlow i ?_,hm,rfl⟩
    rw [Kh]
    exact bC (f:=fun p:Nat×List A=>p.1) hm
   |none=>
    rw [h1] at hi
    have hi':yF (ypn rs 10000000) i=some ob:=by simpa using hi
    obtain ⟨k,j,h2,h3⟩:=ydg _ _ _ _ hi'
    obtain ⟨h4,h5⟩:=hrsp (j,ob) (aV h3)
    exact .inr ⟨k,j,h2,by rw [Kh,bH,h3];rfl,h4,h5⟩
  have hnd:(zp rs).Nodup:=by
   rw [← hrs]
   exact y45 _ _ (y5u _ _)
  have hold: ∀ (i:Nat) (ob:Ob) (k:Nat),yF (ypm (y4u rs 10000000) bx++ypn rs 10000000) i=some ob→ze (G.via inv) i ob k→ ∃ o1,yF s.o (inv i)=some o1∧ze G (inv i) o1 k:=fun i ob k hi hbk=>by
   rcases hlook i ob hi with ⟨cs,h1,h2,_,rfl⟩|⟨k',j,rfl,h1,h2,how⟩
   ·rw [hinvl i h2]
    refine ⟨_,h1,?_⟩
    simpa [ze,Gh.via,hinvl i h2] using hbk
   ·rw [hinvk k' j h1]
    have hv:=hinvk k' j h1
    exact ⟨_,h2,(how.same (G:=G) (G':=G.via inv) (i:=10000000+k') (j:=j) (w:=w) (by simp [Gh.via,hv]) (by simp [Gh.via,hv]) (by simp [Gh.via,hv]) (by simp [Gh.via,hv]) (by simp [Gh.via,hv]) rfl rfl).1 k hbk⟩
  have htid: ∀ i∈Yt t,ylE (yF s.o) i:=fun i hi=>by
   rw [← ht] at hi
   exact VP _ _ i hi
  refine ⟨G.via inv,{h with inH:=h.inH,base:=h.base,pv:=h.pv,hnew:=h.hnew,defers:=h.defers,len:= ?_,slots:=fun i x hx=> ?_,objs:=fun i ob hi=> ?_,away:=fun i ob k hi hbk=> ?_,apart:=fun i j oi oj k hi hj hbi hbj=> ?_,pin:=fun i ob b hi hp=> ?_}⟩
  ·have hl:=h.len
   have h1: ∀ l:List A,(yeZ (y4u rs 10000000) l).length=l.length:=fun l=>by
    induction l with
    |nil=>rfl
    |cons a l ih=>simp [yeZ,ih]
   have h2: ∀ l:List A,(Zb (yF s.o) l).length=l.length:=fun l=>by
    induction l with
    |nil=>rfl
    |cons a l ih=>simp [Zb,ih]
   have h3: ∀ (l:List Nat) (t:List A) (i:Nat),(y9K l i t).length=t.length:=fun l t=>by
    induction t with
    |nil=>intro i;rfl
    |cons a t ih=>intro i;simp [y9K,ih]
   simp only [h1,← ht,h2,h3]
   exact hl
  ·have hx':(yeZ (y4u rs 10000000) t)[i]? =some x:=hx
   rw [ya1] at hx'
   obtain ⟨y,hy,rfl⟩:=aq.1 hx'
   have hmem: ∀ j∈y.ids,j∈Yt t:=fun j hj=>by
    have: ∀ (l:List A) (i:Nat) (y:A),l[i]? =some y→ ∀ j∈y.ids,j∈Yt l:=by
     intro l
     induction l with
     |nil=>intro i y hy;simp at hy
     |cons b l ihl=>
      intro i y hy j hj
      cases i with
      |zero=>
       simp only [bz,ap] at hy
       subst hy
       simp [Yt,hj]
      |succ i=>simp [Yt,ihl i y (by simpa using hy) j hj]
    exact this t i y hy j hj
   refine RA.ren y _ ?_ (fun j hj=>hid j (htid j (hmem j hj)) (by simp [hmem j hj]))
   rw [← ht,y2c] at hy
   obtain ⟨u,hu,rfl⟩:=aq.1 hy
   refine RA.resolve h u _ ?_
   rw [ydd] at hu
   obtain ⟨u',hu',rfl⟩:=aq.1 hu
   cases qR l (0+i) with
   |true=>exact h.slots i u' hu'
   |false=>trivial
  ·rcases hlook i ob hi with ⟨cs,h1,h2,h3,rfl⟩|⟨k,j,rfl,h1,h2,how⟩
   ·have hro:=h.objs i _ h1
    refine ⟨by simp only [Gh.via,hinvl i h2];exact hro.1,fun j x hx=> ?_⟩
    rw [ya1] at hx
    obtain ⟨y,hy,rfl⟩:=aq.1 hx
    have hyy:=hy
    rw [y2c] at hy
    obtain ⟨u,hu,rfl⟩:=aq.1 hy
    obtain ⟨f1,v,f2,f3,f4⟩:=hro.2 j u hu
    simp only [Gh.via,hinvl i h2]
    refine ⟨f1,v,f2,f3,RA.ren _ _ (RA.resolve h u v f4) (fun m hm=> ?_)⟩
    have hmm:m∈Yt (Zb (yF s.o) cs):=by
     have: ∀ (l:List A) (i:Nat) (y:A),l[i]? =some y→ ∀ j∈y.ids,j∈Yt l:=by
      intro l
      induction l with
      |nil=>intro i y hy;simp at hy
      |cons b l ihl=>
       intro i y hy j hj
       cases i with
       |zero=>
        simp only [bz,ap] at hy
        subst hy
        simp [Yt,hj]
       |succ i=>simp [Yt,ihl i y (by simpa using hy) j hj]
     exact this _ j _ hyy m hm
    exact hid m (VP _ _ m hmm) (bK _ (ygE bx _ m h3 hmm))
   ·have hro:=h.objs j _ h2
    have hv:=hinvk k j h1
    exact (how.same (G:=G) (G':=G.via inv) (i:=10000000+k) (j:=j) (w:=w) (by simp [Gh.via,hv]) (by simp [Gh.via,hv]) (by simp [Gh.via,hv]) (by simp [Gh.via,hv]) (by simp [Gh.via,hv]) rfl rfl).2 hro
  ·obtain ⟨o1,h1,h2⟩:=hold i ob k hi hbk
   exact h.away _ o1 k h1 h2
  ·obtain ⟨o1,h1,h2⟩:=hold i oi k hi hbi
   obtain ⟨o2,h3,h4⟩:=hold j oj k hj hbj
   have heq:=h.apart _ _ o1 o2 k h1 h3 h2 h4
   rcases hlook i oi hi with ⟨cs,a1,a2,_,rfl⟩|⟨k1,j1,rfl,a1,a2,how1⟩<;>rcases hlook j oj hj with ⟨cs',b1,b2,_,rfl⟩|⟨k2,j2,rfl,b1,b2,how2⟩
   ·rw [hinvl i a2,hinvl j b2] at heq
    exact heq
   ·rw [hinvl i a2,hinvk k2 j2 b1] at heq
    subst heq
    rw [a1] at b2
    injection b2 with b2
    rw [← b2] at how2
    exact how2.box.elim
   ·rw [hinvk k1 j1 a1,hinvl j b2] at heq
    subst heq
    rw [b1] at a2
    injection a2 with a2
    rw [← a2] at how1
    exact how1.box.elim
   ·rw [hinvk k1 j1 a1,hinvk k2 j2 b1] at heq
    subst heq
    have hl1:=(av.1 a1).1
    have:=(List.getElem?_inj hl1 hnd).1 (a1.trans b1.symm)
    rw [this]
  ·rcases hlook i ob hi with ⟨cs,h1,h2,_,rfl⟩|⟨k,j,rfl,h1,h2,_⟩
   ·simp only [Gh.via,hinvl i h2]
    exact h.pin i _ b h1 hp
   ·have:=H0.ok _ b hp
    omega
end
section
variable {P:Program} {C:Ctx} {w0:World} {lent:Nat→Prop} {H0:Base} {call:C.Sem}
theorem yhY {h0:List Nat} {ops:Array Oper}: ∀ (l:List Oper) (L:List Dop),yhv C h0 ops l=some L→L.length=l.length∧ ∀ (k:Nat) (x:Dop),L[k]? =some x→l[k]? =some x.o∧jX ops x.o=some x.g:=by
 intro l
 induction l with
 |nil=>
  intro L h
  simp only [yhv,ap] at h
  subst h
  exact ⟨rfl,fun k x hk=>by simp at hk⟩
 |cons o r ih=>
  intro L h
  simp only [yhv] at h
  cases hg:jX ops o with
  |none=>simp [hg] at h
  |some g=>
   cases hl:yhv C h0 ops r with
   |none=>simp [hg,hl] at h
   |some l=>
    simp only [hg,hl,ap] at h
    subst h
    obtain ⟨h1,h2⟩:=ih l hl
    refine ⟨by simp [h1],fun k x hk=> ?_⟩
    cases k with
    |zero=>
     simp only [bz,ap] at hk
     subst hk
     exact ⟨rfl,hg⟩
    |succ k=>simpa using h2 k x (by simpa using hk)
theorem yj6 {s:St} {a:Act} {w:World} {G:Gh} (h:Rel P w0 lent H0 s a w G) {x:Operand} {b:Bool} (hb:zu s x=some b):a.eval x= .bool b:=by
 have hr:=h.opd x
 unfold zu at hb
 split at hb
 ·rename_i b' hb'
  injection hb with hb
  subst hb
  rw [hb'] at hr
  exact hr
 ·cases hb
def yJT (o:Oper):Bool:=match o.dst with
 |some d=>Nat.blt d 900||Nat.ble 950 d
 |none=>true
def ygG:List Oper→Bool
 |[]=>true
 |o::r=>yJT o&&ygG r
def yj7:Code→Bool
 | .region _ ops _=>ygG ops.toList
 | .seq a b=>yj7 a&&yj7 b
 | .cond _ a b=>yj7 a&&yj7 b
 | .block _ c=>yj7 c
 | .loop c=>yj7 c
 |_=>true
theorem yfn (l:List Oper) (h:ygG l=true): ∀ o∈l,Out o:=by
 induction l with
 |nil=>intro o ho;simp at ho
 |cons x l ih=>
  intro o ho
  simp only [ygG,al] at h
  rcases aA.1 ho with e|ho
  ·intro d hd
   have h1:=h.1
   rw [← e] at h1
   simp only [yJT,hd,ck] at h1
   exact h1.imp wM wM
  ·exact ih h.2 o ho
def y63 (C:Ctx) (call:C.Sem) (lp:Lp) (fn:Nat) (c:Code):Prop:=
 ∀ l lx,C.live fn (Z5 c)=some (l,lx)→ ∀ {R:Type} (κ:Option Nat→St→Option R) (s:St) (r:R),lp (Z5 c) s κ=some r→ ∃ n,zI (yiz C call lp fn c l lx κ) n s=some r
structure Ways (P:Program) (w0:World) (lent:Nat→Prop) (H0:Base) {R:Type} (K:Ks R) (r:R) (Q:Exit→Act→World→Prop):Prop where
 exits: ∀ i s a w G,K.exit i s=some r→Rel P w0 lent H0 s a w G→Q (.exit i) a w
 ret: ∀ s a w G,K.ret s=some r→Rel P w0 lent H0 s a w G→Q .ret a w
theorem yhZ (hT:TOk C P) (hC:qM H0 C P call) (hm:P.follows .mixedOrders=true) {lp:Lp} {fn:Nat} {R:Type}: ∀ (c:Code) (s:St) (a:Act) (w:World) (G:Gh) (k:St→Option R) (K:Ks R) (r:R) (Q:Exit→Act→World→Prop),yj7 c=true→(∀ c'∈JB c,y63 C call lp fn c')→Rel P w0 lent H0 s a w G→y3y C call lp fn c s k K=some r→
  (∀ s' a' w' G',k s'=some r→Rel P w0 lent H0 s' a' w' G'→Q .normal a' w')→Ways P w0 lent H0 K r Q→c.wp P Q a w:=by
 intro c
 induction c with
 |skip=>
  intro s a w G k K r Q ho hl h he hk hw
  exact Go.wp_skip (hk s a w G he h)
 |region id ops dr=>
  intro s a w G0 k K r Q ho hl h0 he hk hw
  rw [y3y] at he
  obtain ⟨G,h⟩: ∃ G,Rel P w0 lent H0 (yud (C.hint fn) id s) a w G:=by
   unfold yud
   split
   ·exact ⟨G0,h0⟩
   ·obtain ⟨G',_,hr,_⟩:=h0.settles (fun i ob e ts xs hi hw=>⟨ob,hi,hw⟩) (yiy s _)
    exact ⟨G',hr⟩
  generalize yud (C.hint fn) id s=s at he h
  cases hp:yJR C (C.hint fn) dr ops with
  |none=>simp [hp] at he
  |some L=>
   simp only [hp] at he
   have hout: ∀ (i:Nat) (o:Oper),ops[i]? =some o→Out o:=fun i o hi=>yfn ops.toList ho o (by simpa using Array.mem_of_getElem? hi)
   cases dr with
   |false=>
    obtain ⟨h1,h2⟩:=yhY ops.toList L hp
    exact wp_region (yfk hT hC hout ⟨by simpa using h1,fun i x hx=>⟨by simpa using (h2 i x hx).1,(h2 i x hx).2⟩⟩ h he hk)
   |true=>exact wp_region_any hm (yhX hT hC hout hp h he hk)
 |seq x y ihx ihy=>
  intro s a w G k K r Q ho hl h he hk hw
  rw [y3y] at he
  simp only [yj7,al] at ho
  simp only [JB,aF] at hl
  exact wp_seq (ihx s a w G _ K r _ ho.1 (fun c' hc'=>hl c' (.inl hc')) h he (fun s' a' w' G' hk' hr'=>ihy s' a' w' G' k K r Q ho.2 (fun c' hc'=>hl c' (.inr hc')) hr' hk' hk hw) ⟨fun i s a w G h1 h2=>hw.exits i s a w G h1 h2,fun s a w G h1 h2=>hw.ret s a w G h1 h2⟩)
 |cond c x y ihx ihy=>
  intro s a w G k K r Q ho hl h he hk hw
  rw [y3y] at he
  simp only [JB,aF] at hl
  cases hb:zu s c with
  |none=>simp [hb] at he
  |some b=>
   simp only [hb] at he
   refine wp_cond (yj6 h hb) ?_
   simp only [yj7,al] at ho
   cases b with
   |true=>exact ihx s a w G k K r Q ho.1 (fun c' hc'=>hl c' (.inl hc')) h he hk hw
   |false=>exact ihy s a w G k K r Q ho.2 (fun c' hc'=>hl c' (.inr hc')) h he hk hw
 |block i c ih=>
  intro s a w G k K r Q ho hl h he hk hw
  rw [y3y] at he
  refine wp_block (ih s a w G k _ r _ ho hl h he (fun s' a' w' G' h1 h2=>hk s' a' w' G' h1 h2) ⟨fun j s a w G h1 h2=> ?_,fun s a w G h1 h2=>hw.ret s a w G h1 h2⟩)
  by_cases hij:i=j
  ·subst hij
   simp only [yp,ai] at h1
   simp only [Exit.inBlock,aB]
   exact hk s a w G h1 h2
  ·simp only [yB hij,ag] at h1
   simp only [Exit.inBlock]
   first
    |rw [am hij];exact hw.exits j s a w G h1 h2
    |rw [am (fun e=>hij e.symm)];exact hw.exits j s a w G h1 h2
 |loop c ih=>
  intro s a w G k K r Q ho hl h he hk hw
  rw [y3y] at he
  cases hlv:C.live fn (Z5 c) with
  |none=>simp [hlv] at he
  |some q=>
   obtain ⟨l,lx⟩:=q
   simp only [hlv] at he
   cases hs:s.keep l with
   |none=>simp [hs] at he
   |some s0=>
    simp only [hs,aa] at he
    obtain ⟨G0,h0⟩:=h.keep hs
    obtain ⟨n,hn⟩:=hl c (by simp [JB]) l lx hlv K.go s0 r he
    refine wp_loop_rounds n ?_
    have key: ∀ (n:Nat) (s0:St) (a:Act) (w:World) (G:Gh),Rel P w0 lent H0 s0 a w G→zI (yiz C call lp fn c l lx K.go) n s0=some r→Code.rounds P c Q n a w:=by
     intro n
     induction n with
     |zero=>intro s0 a w G _ h;cases h
     |succ n ihn=>
      intro s0 a w G h0 he
      rw [zI] at he
      rw [rounds_succ]
      refine ih s0 a w G _ _ r _ ho (fun c' hc'=>hl c' (by simp [JB,hc'])) h0 he (fun s' a' w' G' hk' hr'=> ?_) ⟨fun i s a w G h1 h2=> ?_,fun s a w G h1 h2=> ?_⟩
      ·cases hs':s'.keep l with
       |none=>simp [hs'] at hk'
       |some s3=>
        simp only [hs',aa] at hk'
        obtain ⟨G3,h3⟩:=hr'.keep hs'
        exact ihn s3 a' w' G3 h3 hk'
      ·simp only [Ks.keep] at h1
       cases hs':s.keep lx with
       |none=>simp [hs'] at h1
       |some s3=>
        simp only [hs',aa] at h1
        obtain ⟨G3,h3⟩:=h2.keep hs'
        exact hw.exits i s3 a w G3 h1 h3
      ·simp only [Ks.keep] at h1
       cases hs':s.keep lx with
       |none=>simp [hs'] at h1
       |some s3=>
        simp only [hs',aa] at h1
        obtain ⟨G3,h3⟩:=h2.keep hs'
        exact hw.ret s3 a w G3 h1 h3
    exact key n s0 a w G0 h0 hn
 |exit i=>
  intro s a w G k K r Q ho hl h he hk hw
  rw [y3y] at he
  exact wp_exit (hw.exits i s a w G he h)
 |ret=>
  intro s a w G k K r Q ho hl h he hk hw
  rw [y3y] at he
  exact wp_ret (hw.ret s a w G he h)
 |_=>
  intro s a w G k K r Q ho hl h he hk hw
  simp [y3y] at he
end
section
variable {P:Program} {C:Ctx} {w0:World} {lent:Nat→Prop} {H0:Base} {s:St} {a:Act} {w:World} {G:Gh} {call:C.Sem}
def y4M (tmps:Array Value):ResultVar→Sem Value
 | .tmp t=>pure (tmps.getD t undef)
 | .cell a t=>do loadVar t (← asAddr (tmps.getD a undef))
theorem ydh {fn:Func} {tmps:Array Value} {cs:List Value} (h:(fn.results.toList.mapM (y4M tmps)).run P w= .ok cs w):(results fn tmps).run P w= .ok (y4G cs) w:=by
 have e:(fn.results.mapM (y4M tmps)).run P w= .ok cs.toArray w:=by
  rw [Array.mapM_eq_mapM_toList]
  simp [h]
 have:results fn tmps=(do
   let vs ← fn.results.mapM (y4M tmps)
   pure (if h:vs.size=1 then vs[0] else .tuple vs)):=by
  unfold results
  congr 2
 rw [this,Sem.run_bind,e]
 cases cs with
 |nil=>rfl
 |cons c cs=>
  cases cs with
  |nil=>rfl
  |cons d cs=>simp [y4G]
theorem ydi {G:Gh} {agg:Bool} {x:A} {c:List A} {v:Value} (hc:wG agg x=some c) (hr:RA G x v): ∃ vs1,RL G c vs1∧(if agg then v= .agg vs1.toArray else vs1=[v]):=by
 cases agg with
 |true=>
  cases x with
  |agg l0=>
   simp only [wG,ap] at hc
   subst hc
   obtain ⟨cs,hv,hl⟩:=hr
   exact ⟨cs,hl,hv⟩
  |_=>simp [wG] at hc
 |false=>
  have:c=[x]:=by
   cases x<;>simp [wG] at hc<;>exact hc.symm
  subst this
  exact ⟨[v],⟨hr,trivial⟩,rfl⟩
theorem yj8 (hT:TOk C P) (h:Rel P w0 lent H0 s a w G) {t:Nat} {ti:TI} (ht:C.info t=some ti) {p x:A} (hx:y3w (yF s.o) ti p=some x) {v:Value} (hv:RA G p v): ∃ u,(do loadVar t (← asAddr v):Sem Value).run P w= .ok u w∧RA G x u:=by
 obtain ⟨u,hu,hr⟩:=y5o hT h (fun _ _ h=>h) ht hx hv
 refine ⟨u,?_,hr⟩
 have: ∃ ad,v= .pointer (some ad):=by
  cases p with
  |box b off=>exact ⟨_,hv⟩
  |rtp o i c=>exact ⟨_,hv.1⟩
  |elp e ts xs i c=>
   obtain ⟨ad,hv,_⟩:=hv
   exact ⟨_,hv⟩
  |_=>simp [y3w] at hx
 obtain ⟨ad,rfl⟩:=this
 simpa [Instr.loadAt,Instr.sureAddr,asAddr] using hu
theorem y9l (hT:TOk C P) (h:Rel P w0 lent H0 s a w G): ∀ (rs:List ResultVar) (ks:List RK) (l:List A),ygf C s rs ks=some l→ ∃ cs vs,(rs.mapM (y4M a.tmps)).run P w= .ok cs w∧RL G l vs∧ ∀ rest,y1n ks (vs++rest) cs rest:=by
 intro rs
 induction rs with
 |nil=>
  intro ks l hl
  cases ks with
  |nil=>
   simp only [ygf,ap] at hl
   subst hl
   exact ⟨[],[],rfl,trivial,fun rest=>⟨rfl,by simp⟩⟩
  |cons _ _=>simp [ygf] at hl
 |cons r rs ih=>
  intro ks l hl
  cases ks with
  |nil=>cases r<;>simp [ygf] at hl
  |cons k ks=>
   have step: ∀ (x:A) (v:Value),(y4M a.tmps r).run P w= .ok v w→RA G x v→(match wG k.agg x,ygf C s rs ks with
     |some c,some l=>bif Nat.beq c.length k.ts.length then some (c++l) else none
     |_,_=>none)=some l→ ∃ cs vs,((r::rs).mapM (y4M a.tmps)).run P w= .ok cs w∧RL G l vs∧ ∀ rest,y1n (k::ks) (vs++rest) cs rest:=by
    intro x v hv hr hl
    cases hc:wG k.agg x with
    |none=>simp [hc] at hl
    |some c=>
     cases hrl:ygf C s rs ks with
     |none=>simp [hc,hrl] at hl
     |some l'=>
      simp only [hc,hrl] at hl
      cases hb:Nat.beq c.length k.ts.length with
      |false=>simp [hb] at hl
      |true=>
       simp only [hb,ai,ap] at hl
       subst hl
       obtain ⟨cs,vs,h1,h2,h3⟩:=ih ks l' hrl
       obtain ⟨vs1,k1,k2⟩:=ydi hc hr
       refine ⟨v::cs,vs1++vs,?_,RL.append k1 h2,fun rest=>⟨vs1,vs++rest,v,cs,by simp,by rw [← k1.length];exact an hb,rfl,k2,h3 rest⟩⟩
       rw [List.mapM_cons]
       simp only [Sem.run_bind,hv]
       simp [h1]
   cases r with
   |tmp t=>
    simp only [ygf] at hl
    exact step _ _ rfl (h.tmp t) hl
   |cell b t=>
    simp only [ygf] at hl
    cases ht:C.info t with
    |none=>simp [ht] at hl
    |some ti=>
     simp only [ht] at hl
     cases hx:y3w (yF s.o) ti (s.t.getD b .dead) with
     |none=>
      rw [hx] at hl
      cases hl
     |some x=>
      simp only [hx] at hl
      obtain ⟨u,hu,hr⟩:=yj8 hT h ht hx (h.tmp b)
      exact step x u hu hr hl
theorem yi0 (hT:TOk C P) (h:Rel P w0 lent H0 s a w G) {rs:List ResultVar} {ks:List RK} {l:List A} (hl:yDv C s rs ks=some l):
  ∃ b off vs1 vs2 c2 q cs r ks',(rs.mapM (y4M a.tmps)).run P w= .ok (.pointer (some ⟨b,off,none⟩)::c2) w∧RL G l (vs1++vs2)∧ks=r::ks'∧vs1.length=r.ts.length∧(∀ rest,y1n ks' (vs2++rest) c2 rest)∧y7x w b off vs1∧yF s.o q=some (.box cs)∧G.g q=(b,off)∧(q<900∨950≤q):=by
 unfold yDv at hl
 split at hl
 ·rename_i t rs' k ks'
  split at hl
  ·rename_i q off hq
   split at hl
   ·rename_i cs hcs
    cases hb:Nat.beq off 0&&Nat.beq cs.length k.ts.length&&(Nat.blt q 900||Nat.ble 950 q) with
    |false=>simp [hb] at hl
    |true=>
     simp only [hb,ai] at hl
     cases hrl:ygf C s rs' ks' with
     |none=>simp [hrl] at hl
     |some l'=>
     simp only [hrl,ap] at hl
     subst hl
     obtain ⟨cz,vs2,d1,d2,d3⟩:=y9l hT h rs' ks' l' hrl
     simp only [al,ck] at hb
     have ho:=an hb.1.1
     have hlen:=an hb.1.2
     subst ho
     have hro:=h.objs q _ hcs
     obtain ⟨vs3,c1,c2,c3,c4⟩:=y4x (G:=G) cs (fun j=>w.cell? ⟨(G.g q).1,(G.g q).2+j,none⟩) (fun j c hc=>(hro.2 j c hc).2)
     refine ⟨(G.g q).1,(G.g q).2,vs3,vs2,cz,q,cs,k,ks',?_,RL.append c4 d2,rfl,by rw [c1,hlen],d3,⟨hro.1,fun j u hu=> ?_⟩,hcs,rfl,?_⟩
     ·have:=h.tmp t
      rw [hq] at this
      have hv:a.tmps.getD t undef= .pointer (some ⟨(G.g q).1,(G.g q).2+0,none⟩):=this
      rw [List.mapM_cons]
      simp [y4M,hv,d1]
     ·have hj:j<cs.length:=by
       have:=(av.1 hu).1
       omega
      exact ⟨(hro.2 j _ (aJ hj)).1,c2 j u hu,c3 u (aV hu)⟩
     ·rcases hb.2 with h1|h1
      ·exact .inl (wM h1)
      ·exact .inr (bU h1)
   ·cases hl
  ·cases hl
 ·cases hl
theorem yfo (h:Rel P w0 lent H0 s a w G): ∀ (ps:List PK) (i:Nat) (l:List A) (args vs:List Value) (pb:List (Nat×Nat)) (w1:World),y5n s ps i=some l→qD w1 ps args vs pb→(∀ j,900+i≤j→H0.pin j=y0K ps pb i j)→ ∃ vs2,RL G l vs2∧y28 w ps pb vs2:=by
 intro ps
 induction ps with
 |nil=>
  intro i l args vs pb w1 hb hs hp
  simp only [y5n,ap] at hb
  subst hb
  obtain ⟨_,_,rfl⟩:=hs
  exact ⟨[],trivial,rfl,rfl⟩
 |cons p ps ih=>
  intro i l args vs pb w1 hb hs hp
  cases p with
  |v agg ts os=>
   obtain ⟨arg,vs1,args',vs',_,_,_,_,hs'⟩:=hs
   exact ih (i+1) l args' vs' pb w1 hb hs' (fun j hj=>hp j (by omega))
  |k f=>
   obtain ⟨args',_,hs'⟩:=hs
   exact ih (i+1) l args' vs pb w1 hb hs' (fun j hj=>hp j (by omega))
  |p wr ts os=>
   obtain ⟨b,off,vs1,args',vs',pb',_,_,_,rfl,_,hs'⟩:=hs
   simp only [y5n] at hb
   cases hl:yF s.o (900+i) with
   |none=>simp [hl] at hb
   |some ob=>
    cases ob with
    |box cs=>
     cases hr:y5n s ps (i+1) with
     |none=>simp [hl,hr] at hb
     |some l'=>
      simp only [hl,hr] at hb
      cases hbe:Nat.beq cs.length ts.length with
      |false=>simp [hbe] at hb
      |true=>
       simp only [hbe,ai,ap] at hb
       subst hb
       obtain ⟨vs2,h1,h2⟩:=ih (i+1) l' args' vs' pb' w1 hr hs' (fun j hj=>by
        rw [hp j (by omega)]
        simp [y0K,show ¬ j=900+i by omega])
       have hpin:H0.pin (900+i)=some (b,off):=by
        rw [hp (900+i) (by omega)]
        simp [y0K]
       have hg:=h.pin (900+i) _ _ hl hpin
       have hro:=h.objs (900+i) _ hl
       rw [RO,hg] at hro
       obtain ⟨vs3,c1,c2,c3,c4⟩:=y4x (G:=G) cs (fun j=>w.cell? ⟨b,off+j,none⟩) (fun j c hc=>(hro.2 j c hc).2)
       refine ⟨vs3++vs2,RL.append c4 h1,b,off,pb',vs3,vs2,rfl,rfl,by rw [c1];exact an hbe,⟨hro.1,fun j u hu=> ?_⟩,h2⟩
       have hj:j<cs.length:=by
        have:=(av.1 hu).1
        omega
       exact ⟨(hro.2 j _ (aJ hj)).1,c2 j u hu,c3 u (aV hu)⟩
    |_=>simp [hl] at hb
theorem yj9 (h:Rel P w0 lent H0 s a w G): ∀ (ps:List PK) (i:Nat) (l:List A) (args vs:List Value) (pb:List (Nat×Nat)) (w1:World),y5n s ps i=some l→qD w1 ps args vs pb→(∀ j,900+i≤j→H0.pin j=y0K ps pb i j)→ ∀ p∈pb,∃ j cs,yF s.o j=some (.box cs)∧G.g j=p∧900≤j∧j<900+i+ps.length:=by
 intro ps
 induction ps with
 |nil=>
  intro i l args vs pb w1 hb hs hp p hpm
  obtain ⟨_,_,rfl⟩:=hs
  simp at hpm
 |cons q ps ih=>
  intro i l args vs pb w1 hb hs hp p hpm
  cases q with
  |v agg ts os=>
   obtain ⟨arg,vs1,args',vs',_,_,_,_,hs'⟩:=hs
   obtain ⟨j,cs,a1,a2,a3,a4⟩:=ih (i+1) l args' vs' pb w1 hb hs' (fun j hj=>hp j (by omega)) p hpm
   exact ⟨j,cs,a1,a2,a3,by simp only [ah];omega⟩
  |k f=>
   obtain ⟨args',_,hs'⟩:=hs
   obtain ⟨j,cs,a1,a2,a3,a4⟩:=ih (i+1) l args' vs pb w1 hb hs' (fun j hj=>hp j (by omega)) p hpm
   exact ⟨j,cs,a1,a2,a3,by simp only [ah];omega⟩
  |p wr ts os=>
   obtain ⟨b,off,vs1,args',vs',pb',_,_,_,rfl,_,hs'⟩:=hs
   simp only [y5n] at hb
   cases hl:yF s.o (900+i) with
   |none=>simp [hl] at hb
   |some ob=>
    cases ob with
    |box cs=>
     cases hr:y5n s ps (i+1) with
     |none=>simp [hl,hr] at hb
     |some l'=>
      have hpin:H0.pin (900+i)=some (b,off):=by
       rw [hp (900+i) (by omega)]
       simp [y0K]
      rcases aA.1 hpm with rfl|hpm
      ·exact ⟨900+i,cs,hl,h.pin (900+i) _ _ hl hpin,by omega,by simp only [ah];omega⟩
      ·obtain ⟨j,cs,a1,a2,a3,a4⟩:=ih (i+1) l' args' vs' pb' w1 hr hs' (fun j hj=>by
        rw [hp j (by omega)]
        simp [y0K,show ¬ j=900+i by omega]) p hpm
       exact ⟨j,cs,a1,a2,a3,by simp only [ah];omega⟩
    |_=>simp [hl] at hb
theorem yi1 {dp:Bool} {H:Hp} {w:World}: ∀ (ts:List Ty) (os:List Bool) (x:yJ ts) (vs:List Value) (bs:List (Nat→Prop)),kX dp H w ts os x vs bs→ts.length=vs.length:=by
 intro ts
 induction ts with
 |nil=>intro os x vs bs h;rw [h.1];rfl
 |cons t ts ih=>
  intro os x vs bs h
  cases ts with
  |nil=>
   obtain ⟨v,b,rfl,_,_⟩:=h
   rfl
  |cons u r=>
   obtain ⟨v,b,vs',bs',rfl,_,_,h4⟩:=h
   have:=ih _ _ _ _ h4
   simp only [ah] at*
   omega
theorem y9m (s:St): ∀ (ps:List PK) (i:Nat),ps.any PK.isP=false→y5n s ps i=some []
 |[],_,_=>rfl
 | .v _ _ _::ps,i,h=>y9m s ps (i+1) (by simpa [PK.isP] using h)
 | .k _::ps,i,h=>by simp [PK.isP] at h
 | .p _ _ _::ps,i,h=>by simp [PK.isP] at h
theorem yfp (h:Rel P w0 lent H0 s a w G): ∀ (os:List Bool) (n:Nat) (l:List A) (vs:List Value),ycH s os n=some l→(∀ j,G.pv (n+j)=vs.getD j undef)→os.length≤vs.length→RL G l (ycT os vs):=by
 intro os
 induction os with
 |nil=>
  intro n l vs hb _ _
  simp only [ycH,ap] at hb
  subst hb
  cases vs<;>trivial
 |cons o os ih=>
  intro n l vs hb hp hl
  cases vs with
  |nil=>simp at hl
  |cons v vs=>
   have hp': ∀ j,G.pv (n+1+j)=vs.getD j undef:=fun j=>by
    have:=hp (j+1)
    rw [show n+(j+1)=n+1+j by omega] at this
    simpa using this
   have hl':os.length≤vs.length:=by simpa using hl
   cases o with
   |false=>exact ih (n+1) l vs hb hp' hl'
   |true=>
    simp only [ycH] at hb
    cases hf:y9L s.o (n+1) with
    |none=>simp [hf] at hb
    |some i=>
     simp only [hf] at hb
     cases hlk:yF s.o i with
     |none=>simp [hlk] at hb
     |some ob=>
      cases ob with
      |deep fin tag e ts xs=>
       cases hr:ycH s os (n+1) with
       |none=>simp [hlk,hr] at hb
       |some l'=>
        simp only [hlk,hr] at hb
        cases ht:Nat.beq tag (n+1) with
        |false=>simp [ht] at hb
        |true=>
         simp only [ht,ai,ap] at hb
         subst hb
         have hte:=an ht
         obtain ⟨_,_,⟨A0,c0,hsv,_⟩,_⟩:=Kc h hlk
         have h3:=(h.objs i _ hlk).2.2.1 (by omega)
         rw [hte,Nat.add_sub_cancel] at h3
         have h4:=hp 0
         refine ⟨⟨?_,?_⟩,ih (n+1) l' vs hr hp' hl'⟩
         ·rw [h3]
          simpa using h4.symm
         ·refine ⟨A0,xs.length,c0,?_⟩
          rw [← hsv,h3]
          simpa using h4.symm
      |_=>simp [hlk] at hb
theorem ylF (hT:TOk C P) (hm:P.follows .mixedOrders=true) (hCA:y1o C P call) {f g:Nat} (hfid:C.fid f=g) {fn:Func} {c:Code} {sg:Sig} (hfn:P.funcs[g]? =some fn) (hname:fn.name≠ "runtime.NumGoroutine") (hbody:fn.body=some c) (hsig:C.sig f=some sg) (hout:yj7 c=true) {lp:Lp} (hloops: ∀ c'∈JB c,y63 C call lp f c')
  (hlen:sg.ps.length≤50) (hnt:sg.ps.length≤fn.ntmps) {F:yJ (C.ins f)→Option (yJ (C.outs f))} (hF: ∀ x y,F x=some y→yl9 C call lp f fn c sg (C.ins f) (C.outs f) x=some y):ZN C P f F:=by
 intro sg' x y hsig' hy w H args vs bs pb hgl hH hc ha hs hp hx hd
 rw [hsig] at hsig'
 injection hsig' with hsig'
 subst hsig'
 have he:=hF x y hy
 rw [hfid]
 refine Kg hfn hname (by rw [hbody];simp) (calls_of_wp hfn hbody ?_)
 have hal:args.length=sg.ps.length:=by
  have: ∀ (ps:List PK) (args vs:List Value) (pb:List (Nat×Nat)),qD w ps args vs pb→args.length=ps.length:=by
   intro ps
   induction ps with
   |nil=>
    intro args vs pb h
    rw [h.1]
    rfl
   |cons p ps ih=>
    intro args vs pb h
    cases p with
    |v agg ts os=>
     obtain ⟨arg,vs1,args',vs',rfl,_,_,_,hs'⟩:=h
     simp [ih _ _ _ hs']
    |k f=>
     obtain ⟨args',rfl,hs'⟩:=h
     simp [ih _ _ _ hs']
    |p wr ts os=>
     obtain ⟨b,off,vs1,args',vs',pb',rfl,_,_,_,_,hs'⟩:=h
     simp [ih _ _ _ hs']
  exact this _ _ _ _ hs
 obtain ⟨G,hG,hrel⟩:=yff (P:=P) sg fn.ntmps (C.ins f) x hH hc ha hs hp hx hd hlen (by omega)
 have fin: ∀ (e:Exit) (s:St) (a:Act) (w':World) (G:Gh),(e= .normal∨e= .ret)→ygg C sg fn.results.toList (C.outs f) s=some y→Rel P w (Kf (JS sg bs) pb) ⟨H,y0K sg.ps pb 0,fun i b h=>by have:=kR sg.ps pb 0 i b h;omega,y93 sg w vs bs⟩ s a w' G→
   bodyPost P fn (fun e w'=> ∃ v,e= .returned v∧ ∃ H' vs' cs rest bs',Left w (Kf (JS sg bs) pb) H sg (C.outs f) y pb vs v w' H' vs' cs rest bs') e a w':=by
  intro e s a w' G hend hfin h
  unfold ygg at hfin
  cases h1:(bif sg.ptr then yDv C s fn.results.toList sg.rs else ygf C s fn.results.toList sg.rs) with
  |none=>simp [h1] at hfin
  |some l=>
   cases h2:y5n s sg.ps 0 with
   |none=>simp [h1,h2] at hfin
   |some l2=>
    simp only [h1,h2] at hfin
    cases h4:(bif sg.back&&sg.deep then (bif sg.ptr||sg.ps.any PK.isP|| !Nat.beq (sg.ps.flatMap PK.ownsIn).length sg.ins.length then none else ycH s (sg.ps.flatMap PK.ownsIn) 0) else some []) with
    |none=>
     rw [h4] at hfin
     cases hfin
    |some l3=>
    rw [h4] at hfin
    dsimp only at hfin
    cases h3:vR (yF s.o) sg.deep false (C.outs f) sg.owns ((l++l2)++l3) with
    |none=>
     rw [h3] at hfin
     cases hfin
    |some q=>
     obtain ⟨y',is,gs⟩:=q
     rw [h3] at hfin
     dsimp only at hfin
     cases hb:y0F gs&&y3x gs is with
     |false=>simp [hb] at hfin
     |true=>
      simp only [hb,ai,ap] at hfin
      subst hfin
      simp only [al] at hb
      have hng:=qT hb.1
      have hgi:=Q5 hb.2
      obtain ⟨cs,vs1,r1,r2,r3⟩: ∃ cs vs1,(fn.results.toList.mapM (y4M a.tmps)).run P w'= .ok cs w'∧RL G l vs1∧ ∀ rest,∃ nb,ycS w' sg (vs1++rest) cs rest (y4G cs) nb∧ ∀ k,nb=some k→ ∃ q cq,yF s.o q=some (.box cq)∧(G.g q).1=k∧(q<900∨950≤q):=by
       cases hptr:sg.ptr with
       |false=>
        rw [hptr,ag] at h1
        obtain ⟨cs,vs1,r1,r2,r3⟩:=y9l hT h _ _ _ h1
        refine ⟨cs,vs1,r1,r2,fun rest=>⟨none,?_,fun k hk=>by cases hk⟩⟩
        unfold ycS
        rw [hptr]
        exact ⟨rfl,r3 rest,rfl⟩
       |true=>
        rw [hptr,ai] at h1
        obtain ⟨b,off,vs1,vs2,c2,q,cq,r,ks',r1,r2,r3,r4,r9,r5,r6,r7,r8⟩:=yi0 hT h h1
        refine ⟨_,vs1++vs2,r1,r2,fun rest=>⟨some b,?_,fun k hk=>⟨q,cq,r6,by rw [r7];injection hk,r8⟩⟩⟩
        unfold ycS
        rw [hptr]
        exact ⟨r,ks',b,off,vs1,vs2++rest,c2,rfl,r3,by rw [bo],r4,r9 rest,rfl,r5⟩
      obtain ⟨vs2,b1,b2⟩:=yfo h sg.ps 0 l2 args vs pb w h2 hs (fun j _=>rfl)
      have hptr:=yj9 h sg.ps 0 l2 args vs pb w h2 hs (fun j _=>rfl)
      obtain ⟨G1,hgr,hr1,hset⟩:=Rel.settles (y5e.rows (fun _ _ h=>h)) h is
      obtain ⟨vs3,c1,c2⟩: ∃ vs3,RL G l3 vs3∧(if (sg.back&&sg.deep)=true then vs2++vs3=ycT (sg.ps.flatMap PK.ownsIn) vs else y28 w' sg.ps pb (vs2++vs3)):=by
       cases hbk:sg.back&&sg.deep with
       |false=>
        rw [hbk] at h4
        have h4':some []=some l3:=h4
        injection h4' with h4'
        subst h4'
        exact ⟨[],trivial,by rw [bt];exact b2⟩
       |true=>
        rw [hbk,ai] at h4
        cases hcc:sg.ptr||sg.ps.any PK.isP|| !Nat.beq (sg.ps.flatMap PK.ownsIn).length sg.ins.length with
        |true=>
         rw [hcc] at h4
         cases h4
        |false=>
         rw [hcc,ag] at h4
         simp only [aL,bc] at hcc
         have hins:C.ins f=sg.ins:=by simp [Ctx.ins,hsig]
         have hol:(sg.ps.flatMap PK.ownsIn).length=vs.length:=by
          rw [an hcc.2,← hins,yi1 _ _ _ _ _ hc]
         have h2':=y9m s sg.ps 0 hcc.1.2
         rw [h2] at h2'
         injection h2' with h2'
         subst h2'
         have:vs2=[]:=by
          cases vs2 with
          |nil=>rfl
          |cons _ _=>exact b1.elim
         subst this
         exact ⟨_,yfp h (sg.ps.flatMap PK.ownsIn) 0 l3 vs h4 (fun j=>by rw [h.pv,aK];rfl) (bX hol),rfl⟩
      obtain ⟨bs',t1,t2,t3,_,_⟩:=y90 h (fun _ _ h=>h) hgr sg.deep false (C.outs f) sg.owns ((l++l2)++l3) y' is gs h3 hset hng (vs1++(vs2++vs3)) (by rw [← bo];exact RL.append (RL.append r2 b1) c1)
      have hres:=ydh r1
      have hroot: ∀ i∈zp (Go.Proofs.YtekbnpmmjciloaaGreat.R.settles (yF s.o) is),∃ ob e ts xs,yF s.o i=some ob∧Rw ob e ts xs:=fun i hi=>VO _ is i hi
      have hmem': ∀ {i:Nat} {X:List Nat},i∉X→qR X i=false:=fun {i X} hi=>by
       cases hm:qR X i with
       |false=>rfl
       |true=>exact absurd (JE.1 hm) hi
      have hbox1: ∀ j cs,yF s.o j=some (.box cs)→yF (s.setAll (Go.Proofs.YtekbnpmmjciloaaGreat.R.settles (yF s.o) is)).o j=some (.box cs):=fun j cs hl=>by
       rw [ZH _ _ (hmem' fun hi=> ?_)]
       ·exact hl
       ·obtain ⟨ob,e,ts,xs,hr,hw⟩:=hroot _ hi
        rw [hl] at hr
        injection hr with hr
        subst hr
        rcases hw with ⟨_,hw⟩|⟨_,_,hw⟩<;>cases hw
      have hptr1: ∀ p∈pb,∃ j cs,yF (s.setAll (Go.Proofs.YtekbnpmmjciloaaGreat.R.settles (yF s.o) is)).o j=some (.box cs)∧G1.g j=p∧900≤j∧j<950:=fun p hpm=>by
       obtain ⟨j,cs,hl,hg,hj1,hj2⟩:=hptr p hpm
       exact ⟨j,cs,hbox1 j cs hl,by rw [hgr.g];exact hg,hj1,by omega⟩
      obtain ⟨nb,rr1,rr2⟩:=r3 (vs2++vs3)
      have hleft:Left w (Kf (JS sg bs) pb) H sg (C.outs f) y' pb vs (y4G cs) w' G1.H (vs1++(vs2++vs3)) cs (vs2++vs3) bs':=by
       refine ⟨hr1.os,hr1.tape,hr1.output,hr1.size,hr1.old,hr1.inH,hr1.hnew,t1,t3,fun k hk=> ?_,fun p hpm=> ?_,⟨nb,rr1,fun k hk=> ?_⟩,c2⟩
       ·obtain ⟨q,hq,obq,hl,hbq⟩:=t2 k hk
        have hl1:yF (s.setAll (Go.Proofs.YtekbnpmmjciloaaGreat.R.settles (yF s.o) is)).o q=some obq:=by
         rw [ZH _ _ (hmem' fun hi=>hgi q hq (jn _ is q hi))]
         exact hl
        have hb1:ze G1 q obq k:=by
         rw [qS hgr.g hgr.sv hgr.dp]
         exact hbq
        obtain ⟨a1,a2⟩:=hr1.away q _ k hl1 hb1
        refine ⟨a1,a2,fun p hpm he=> ?_⟩
        obtain ⟨j,cs',hlj,hgj,_⟩:=hptr1 p hpm
        have:=hr1.apart j q _ _ k hlj hl1 (by rw [← he,← hgj];rfl) hb1
        rw [this,hl1] at hlj
        injection hlj with hlj
        obtain ⟨ob9,o1,o2⟩:=y7C sg.owns _ _ _ _ h3 q hq
        rw [hl] at o1
        injection o1 with o1
        rw [← o1,hlj] at o2
        exact o2.box
       ·obtain ⟨j,cs',hlj,hgj,_⟩:=hptr1 p hpm
        have hb1:ze G1 j (.box cs') p.1:=by rw [← hgj];rfl
        exact (hr1.away j _ _ hlj hb1).1
       ·obtain ⟨q,cq,q1,q2,q3⟩:=rr2 k hk
        have q4:=hbox1 q cq q1
        have q5:ze G1 q (.box cq) k:=by
         show (G1.g q).1=k
         rw [hgr.g,q2]
        obtain ⟨a1,a2⟩:=hr1.away q _ k q4 q5
        refine ⟨a1,a2,fun hkb=> ?_,fun p hpm he=> ?_⟩
        ·obtain ⟨q',hq',obq,hl,hbq⟩:=t2 k hkb
         have hl1:yF (s.setAll (Go.Proofs.YtekbnpmmjciloaaGreat.R.settles (yF s.o) is)).o q'=some obq:=by
          rw [ZH _ _ (hmem' fun hi=>hgi q' hq' (jn _ is q' hi))]
          exact hl
         have hb1:ze G1 q' obq k:=by
          rw [qS hgr.g hgr.sv hgr.dp]
          exact hbq
         have:=hr1.apart q q' _ _ k q4 hl1 q5 hb1
         rw [this,hl1] at q4
         injection q4 with q4
         obtain ⟨ob9,o1,o2⟩:=y7C sg.owns _ _ _ _ h3 q' hq'
         rw [hl] at o1
         injection o1 with o1
         rw [← o1,q4] at o2
         exact o2.box
        ·obtain ⟨j,cs',hlj,hgj,hj1,hj2⟩:=hptr1 p hpm
         have:=hr1.apart j q _ _ k hlj q4 (by rw [← he,← hgj];rfl) q5
         omega
      rcases hend with rfl|rfl<;>exact ⟨h.defers,_,hres,_,rfl,_,_,_,_,_,hleft⟩
 refine yhZ hT (hCA.from (H0:=⟨H,y0K sg.ps pb 0,fun i b h=>by have:=kR sg.ps pb 0 i b h;omega,y93 sg w vs bs⟩) hgl) hm c _ _ _ _ _ _ _ _ hout hloops hrel he (fun s' a' w' G' h1 h2=>fin _ s' a' w' G' (.inl rfl) h1 h2) ⟨fun i s a w G h1 _=> ?_,fun s a w G h1 h2=>fin _ s a w G (.inr rfl) h1 h2⟩
 cases h1
end
mutual
def A.vals:A→List (Sigma El)
 | .val t x=>[⟨t,x⟩]
 | .agg l=>y6n l
 | .dead| .und| .nils| .nilp| .own _| .tup _| .box _ _| .elp _ _ _ _ _| .rtp _ _ _| .fn _| .clo _ _| .bor _ _ _| .bep _ _ _ _| .win _ _| .tl _ _| .top _ _ _=>[]
def y6n:List A→List (Sigma El)
 |[]=>[]
 |a::r=>a.vals++y6n r
end
def Ob.vals:Ob→List (Sigma El)
 | .box l=>y6n l
 | .root _ e ts xs=>[⟨.sl e ts,xs⟩]
 | .deep _ _ e ts xs=>[⟨.sl e ts,xs⟩]
 | .gone=>[]
def y8z:List (Nat×Ob)→List (Sigma El)
 |[]=>[]
 |(_,x)::r=>x.vals++y8z r
def St.vals (s:St):List (Sigma El):=y6n s.t++y8z s.o
mutual
def A.same:A→A→Bool
 | .val t _,b=>match b with
  | .val t' _=>Ty.eqb t t'
  |_=>false
 | .agg l,b=>match b with
  | .agg l'=>wO l l'
  |_=>false
 | .dead,b=>match b with
  | .dead=>true
  |_=>false
 | .nils,b=>match b with
  | .nils=>true
  |_=>false
 | .nilp,b=>match b with
  | .nilp=>true
  |_=>false
 | .own o,b=>match b with
  | .own o'=>Nat.beq o o'
  |_=>false
 | .box c off,b=>match b with
  | .box c' off'=>Nat.beq c c'&&Nat.beq off off'
  |_=>false
 | .fn f,b=>match b with
  | .fn f'=>Nat.beq f f'
  |_=>false
 | .clo f c,b=>match b with
  | .clo f' c'=>Nat.beq f f'&&Nat.beq c c'
  |_=>false
 | .und,_| .tup _,_| .elp _ _ _ _ _,_| .rtp _ _ _,_| .bor _ _ _,_| .bep _ _ _ _,_| .win _ _,_| .tl _ _,_| .top _ _ _,_=>false
def wO:List A→List A→Bool
 |[],m=>vT m
 |a::l,m=>match m with
  |b::m'=>a.same b&&wO l m'
  |[]=>false
end
def Ob.same:Ob→Ob→Bool
 | .box l,b=>match b with
  | .box l'=>wO l l'
  |_=>false
 | .root w e ts _,b=>match b with
  | .root w' e' ts' _=>w==w'&&Nat.beq e e'&&Ty.eqbs ts ts'
  |_=>false
 | .deep f t e ts _,b=>match b with
  | .deep f' t' e' ts' _=>(f==f'&&Nat.beq t t')&&Nat.beq e e'&&Ty.eqbs ts ts'
  |_=>false
 | .gone,_=>false
def yi2:List (Nat×Ob)→List (Nat×Ob)→Bool
 |[],m=>vT m
 |(i,x)::l,m=>match m with
  |(j,y)::m'=>Nat.beq i j&&x.same y&&yi2 l m'
  |[]=>false
def St.same (s s':St):Bool:=wO s.t s'.t&&yi2 s.o s'.o
theorem ydj {α:Type} {l:List α} (h:vT l=true):l=[]:=by
 cases l with
 |nil=>rfl
 |cons a l=>cases h
mutual
theorem A.same_eq: ∀ (a b:A),a.same b=true→a.vals.length=b.vals.length∧(a.vals=b.vals→a=b)
 | .val t x,b,h=>by
  cases b<;>simp only [A.same] at h<;>try cases h
  rename_i t' x'
  have:=Ty.eqb_eq _ _ h
  subst this
  refine ⟨rfl,fun hv=> ?_⟩
  simp only [A.vals,cA,Sigma.mk.injEq,heq_eq_eq,true_and,and_true] at hv
  rw [hv]
 | .agg l,b,h=>by
  cases b<;>simp only [A.same] at h<;>try cases h
  rename_i l'
  obtain ⟨h1,h2⟩:=y6L l l' h
  exact ⟨by simpa only [A.vals] using h1,fun hv=>by rw [h2 (by simpa only [A.vals] using hv)]⟩
 | .dead,b,h=>by
  cases b<;>simp only [A.same] at h<;>try cases h
  exact ⟨rfl,fun _=>rfl⟩
 | .nils,b,h=>by
  cases b<;>simp only [A.same] at h<;>try cases h
  exact ⟨rfl,fun _=>rfl⟩
 | .nilp,b,h=>by
  cases b<;>simp only [A.same] at h<;>try cases h
  exact ⟨rfl,fun _=>rfl⟩
 | .own o,b,h=>by
  cases b<;>simp only [A.same] at h<;>try cases h
  rw [an h]
  exact ⟨rfl,fun _=>rfl⟩
 | .box c off,b,h=>by
  cases b<;>simp only [A.same,al] at h<;>try cases h
  rename_i h1 h2
  rw [an h1,an h2]
  exact ⟨rfl,fun _=>rfl⟩
 | .fn f,b,h=>by
  cases b<;>simp only [A.same] at h<;>try cases h
  rw [an h]
  exact ⟨rfl,fun _=>rfl⟩
 | .clo f c,b,h=>by
  cases b<;>simp only [A.same,al] at h<;>try cases h
  rename_i h1 h2
  rw [an h1,an h2]
  exact ⟨rfl,fun _=>rfl⟩
 | .und,_,h| .tup _,_,h| .elp _ _ _ _ _,_,h| .rtp _ _ _,_,h| .bor _ _ _,_,h| .bep _ _ _ _,_,h| .win _ _,_,h| .tl _ _,_,h| .top _ _ _,_,h=>by simp [A.same] at h
theorem y6L: ∀ (l m:List A),wO l m=true→(y6n l).length=(y6n m).length∧(y6n l=y6n m→l=m)
 |[],m,h=>by
  rw [wO] at h
  rw [ydj h]
  exact ⟨rfl,fun _=>rfl⟩
 |a::l,[],h=>by simp [wO] at h
 |a::l,b::m,h=>by
  simp only [wO,al] at h
  obtain ⟨h1,h2⟩:=A.same_eq a b h.1
  obtain ⟨h3,h4⟩:=y6L l m h.2
  refine ⟨by simp only [y6n,ar,h1,h3],fun hv=> ?_⟩
  simp only [y6n] at hv
  obtain ⟨e1,e2⟩:=List.append_inj hv h1
  rw [h2 e1,h4 e2]
end
theorem Ob.same_eq (x y:Ob) (h:x.same y=true):x.vals.length=y.vals.length∧(x.vals=y.vals→x=y):=by
 cases x with
 |box l=>
  cases y<;>simp only [Ob.same] at h<;>try cases h
  rename_i l'
  obtain ⟨h1,h2⟩:=y6L l l' h
  exact ⟨h1,fun hv=>by rw [h2 hv]⟩
 |root w e ts xs=>
  cases y<;>simp only [Ob.same,al] at h<;>try cases h
  rename_i w' e' ts' xs' h12 h3
  have e1:w=w':=by simpa using h12.1
  have e2:=an h12.2
  have e3:=Ty.eqbs_eq _ _ h3
  subst e1 e2 e3
  refine ⟨rfl,fun hv=> ?_⟩
  have hv1:(⟨.sl e ts,xs⟩:Sigma El)=⟨.sl e ts,xs'⟩:=(List.cons.inj hv).1
  have hv2:xs=xs':=eq_of_heq (Sigma.mk.inj hv1).2
  rw [hv2]
 |deep f t e ts xs=>
  cases y<;>simp only [Ob.same,al] at h<;>try cases h
  rename_i f' t' e' ts' xs' h12 h3
  have e0:f=f':=by simpa using h12.1.1
  have e1:=an h12.1.2
  have e2:=an h12.2
  have e3:=Ty.eqbs_eq _ _ h3
  subst e0 e1 e2 e3
  refine ⟨rfl,fun hv=> ?_⟩
  have hv1:(⟨.sl e ts,xs⟩:Sigma El)=⟨.sl e ts,xs'⟩:=(List.cons.inj hv).1
  have hv2:xs=xs':=eq_of_heq (Sigma.mk.inj hv1).2
  rw [hv2]
 |gone=>simp [Ob.same] at h
theorem ygH: ∀ (l m:List (Nat×Ob)),yi2 l m=true→(y8z l).length=(y8z m).length∧(y8z l=y8z m→l=m)
 |[],m,h=>by
  rw [yi2] at h
  rw [ydj h]
  exact ⟨rfl,fun _=>rfl⟩
 |(i,x)::l,[],h=>by simp [yi2] at h
 |(i,x)::l,(j,y)::m,h=>by
  simp only [yi2,al] at h
  obtain ⟨h1,h2⟩:=Ob.same_eq x y h.1.2
  obtain ⟨h3,h4⟩:=ygH l m h.2
  refine ⟨by simp only [y8z,ar,h1,h3],fun hv=> ?_⟩
  simp only [y8z] at hv
  obtain ⟨e1,e2⟩:=List.append_inj hv h1
  rw [h2 e1,h4 e2,an h.1.1]
theorem St.same_eq {s s':St} (h:s.same s'=true) (hv:s.vals=s'.vals):s=s':=by
 simp only [St.same,al] at h
 obtain ⟨h1,h2⟩:=y6L _ _ h.1
 obtain ⟨h3,h4⟩:=ygH _ _ h.2
 obtain ⟨e1,e2⟩:=List.append_inj (show y6n s.t++y8z s.o=y6n s'.t++y8z s'.o from hv) h1
 obtain ⟨t,o⟩:=s
 obtain ⟨t',o'⟩:=s'
 rw [show t=t' from h2 e1,show o=o' from h4 e2]
def y7M:(ts:List Ty)→List (Sigma El)→Option (yJ ts)
 |[],l=>bif vT l then some () else none
 |t::[],l=>match l with
  |v::l'=>bif vT l' then j9 v.1 t v.2 else none
  |[]=>none
 |t::u::r,l=>match l with
  |v::l'=>(match j9 v.1 t v.2 with
   |some x=>(match y7M (u::r) l' with
    |some y=>some (x,y)
    |none=>none)
   |none=>none)
  |[]=>none
def toL:(ts:List Ty)→yJ ts→List (Sigma El)
 |[],_=>[]
 |t::[],x=>[⟨t,x⟩]
 |t::u::r,x=>⟨t,x.1⟩::toL (u::r) x.2
theorem y9n {t t':Ty} {x:El t} {y:El t'} (h:j9 t t' x=some y):(⟨t',y⟩:Sigma El)=⟨t,x⟩:=by
 unfold j9 at h
 split at h
 ·rename_i heq
  have:=Ty.eqb_eq _ _ heq
  subst this
  injection h with h
  subst h
  rfl
 ·cases h
theorem ydk: ∀ (ts:List Ty) (l:List (Sigma El)) (x:yJ ts),y7M ts l=some x→toL ts x=l
 |[],l,x,h=>by
  cases l with
  |nil=>rfl
  |cons a l=>simp [y7M,vT] at h
 |t::[],l,x,h=>by
  cases l with
  |nil=>simp [y7M] at h
  |cons v l=>
   cases l with
   |cons a l=>cases h
   |nil=>
    have h:j9 v.1 t v.2=some x:=h
    simp only [toL,y9n h]
 |t::u::r,l,x,h=>by
  cases l with
  |nil=>simp [y7M] at h
  |cons v l=>
   simp only [y7M] at h
   split at h
   ·rename_i y hy
    split at h
    ·rename_i z hz
     injection h with h
     subst h
     simp only [toL,y9n hy,ydk (u::r) l z hz]
    ·cases h
   ·cases h
def unG (ts:List Ty) (e:yJ ts→St) (s:St):Option (yJ ts):=(y7M ts s.vals).bind fun t=>bif (e t).same s then some t else none
theorem yn {ts:List Ty} {e:yJ ts→St} (h: ∀ t,(e t).vals=toL ts t) (s:St) (t:yJ ts) (hu:unG ts e s=some t):e t=s:=by
 unfold unG at hu
 obtain ⟨t',h1,h2⟩:=Option.bind_eq_some_iff.1 hu
 cases hb:(e t').same s with
 |false=>simp [hb] at h2
 |true=>
  rw [hb,ai] at h2
  injection h2 with h2
  subst h2
  exact St.same_eq hb ((h t').trans (ydk ts _ _ h1))
def dd (n:Nat) (l:List A):List A:=Nat.rec l (fun _ r=> .dead::r) n
def vI (x:Int):A:= .val (.int .i64) x
def vB (x:Bool):A:= .val .bool x
def vS (x:ByteArray):A:= .val .str x
def nf (n:Nat):List Bool:=Nat.rec [] (fun _ r=>false::r) n
theorem y5x {T U:Type} {e:T→St} {e':U→St} {u:St→Option T} {u':St→Option U} (h: ∀ s t,u s=some t→e t=s) (h': ∀ s t,u' s=some t→e' t=s) (s:St) (t:T ⊕ U) (ht:((u s).map Sum.inl).or ((u' s).map Sum.inr)=some t):Sum.elim e e' t=s:=by
 cases hu:u s with
 |some x=>
  rw [hu] at ht
  have:Sum.inl x=t:=by simpa using ht
  subst this
  exact h s x hu
 |none=>
  rw [hu] at ht
  cases hv:u' s with
  |some x=>
   rw [hv] at ht
   have:Sum.inr x=t:=by simpa using ht
   subst this
   exact h' s x hv
  |none=>
   rw [hv] at ht
   simp at ht
noncomputable def zY:Nat:=Classical.choose (⟨18446744073709551616,rfl⟩: ∃ n:Nat,n=18446744073709551616)
theorem y1s:zY=18446744073709551616:=Classical.choose_spec (⟨18446744073709551616,rfl⟩: ∃ n:Nat,n=18446744073709551616)
theorem ypE {C:Ctx} {call:C.Sem} {lp:Lp} {fn:Nat} {c:Code} {l lx:List Nat} (hl:C.live fn (Z5 c)=some (l,lx)) {T:Type} (emb:T→St) (un:St→Option T) (hun: ∀ s t,un s=some t→emb t=s) (stepC: {R:Type}→(Option Nat→St→Option R)→(T→Option R)→T→Option R)
  (hlp: ∀ {R:Type} (κ:Option Nat→St→Option R) (s:St),lp (Z5 c) s κ=(un s).bind fun t=>zI (stepC κ) zY t) (hstep: ∀ {R:Type} (κ:Option Nat→St→Option R) (again:St→Option R) (t:T),yiz C call lp fn c l lx κ again (emb t)=stepC κ (fun t=>again (emb t)) t):y63 C call lp fn c:=by
 intro l' lx' hl' R κ s r h
 rw [hl] at hl'
 injection hl' with hl'
 injection hl' with e1 e2
 subst e1 e2
 rw [hlp] at h
 cases hu:un s with
 |none=>simp [hu] at h
 |some t=>
  rw [hu,aa] at h
  refine ⟨zY,?_⟩
  have key: ∀ (n:Nat) (t:T),zI (yiz C call lp fn c l lx κ) n (emb t)=zI (stepC κ) n t:=by
   intro n
   induction n with
   |zero=>intro t;rfl
   |succ n ih=>
    intro t
    rw [zI,hstep,zI]
    congr 1
    exact funext ih
  rw [← hun s t hu,key]
  exact h
abbrev Kk (R:Type):Type:=Option Nat→St→Option R
abbrev Gk (T:Type):Type 1:= {R:Type}→Kk R→(T→Option R)→T→Option R
noncomputable def lpC (j:Nat) {T:Type} (u:St→Option T) (g:Gk T) (r:Lp):Lp:=fun i s {_R} κ=>bif Nat.beq i j then (u s).bind fun t=>zI (g κ) zY t else r i s κ
def lpN:Lp:=fun _ _ {_R} _=>none
def laN (C:Ctx) (f i:Nat):List Nat:=match C.live f i with
 |some p=>p.1
 |none=>[]
def lbN (C:Ctx) (f i:Nat):List Nat:=match C.live f i with
 |some p=>p.2
 |none=>[]
def laB (C:Ctx) (f i:Nat) (c:Code):Bool:=Nat.beq (Z5 c) i&&(C.live f i).isSome
abbrev LB (lp:Lp) (i:Nat) {T:Type} (u:St→Option T) (g:Gk T):Prop:= ∀ (R:Type) (κ:Kk R) (s:St),lp i s κ=(u s).bind fun t=>zI (g κ) zY t
abbrev LC (C:Ctx) (call:C.Sem) (lp:Lp) (f i:Nat) (c:Code) {T V:Type} (e:T→St) (g:Gk T) (inj:V→T):Prop:= ∀ (R:Type) (κ:Kk R) (again:St→Option R) (v:V),yiz C call lp f c (laN C f i) (lbN C f i) κ again (e (inj v))=g κ (fun t=>again (e t)) (inj v)
theorem ylG {C:Ctx} {call:C.Sem} {lp:Lp} {f i:Nat} {c:Code} (hl:laB C f i c=true) {T:Type} {e:T→St} {u:St→Option T} (hu: ∀ s t,u s=some t→e t=s) {g:Gk T} (hb:LB lp i u @g) (hc:LC C call lp f i c e @g (fun t=>t)):y63 C call lp f c:=by
 simp only [laB,al] at hl
 have hi:=an hl.1
 have hx:C.live f (Z5 c)=some (laN C f i,lbN C f i):=by
  rw [hi]
  unfold laN lbN
  cases h:C.live f i with
  |none=>simp [h] at hl
  |some p=>rfl
 exact ypE hx e u hu @g (fun {R} κ s=>by rw [hi];exact hb R κ s) (fun {R} κ again t=>hc R κ again t)
theorem LC.sum {C:Ctx} {call:C.Sem} {lp:Lp} {f i:Nat} {c:Code} {T V W:Type} {e:T→St} {g:Gk T} {inj:V ⊕ W→T} (h:LC C call lp f i c e @g (fun v=>inj (.inl v))) (h':LC C call lp f i c e @g (fun v=>inj (.inr v))):LC C call lp f i c e @g inj
 |R,κ,again,.inl v=>h R κ again v
 |R,κ,again,.inr v=>h' R κ again v
def y0L (fn:Func):Code:=match fn.body with
 |some c=>c
 |none=> .skip
def cL (fn:Func) (k:Nat):Code:=(JB (y0L fn)).getD k .skip
structure Qf (C:Ctx) (P:Program) where
 f:Nat
 F:yJ (C.ins f)→Option (yJ (C.outs f))
 ok:ZN C P f F
def ylH {C:Ctx} {P:Program}:List (Qf C P)→List (Sigma fun f:Nat=>yJ (C.ins f)→Option (yJ (C.outs f)))
 |[]=>[]
 |q::r=>⟨q.f,q.F⟩::ylH r
def ypF {C:Ctx} {P:Program} (l:List (Qf C P)):C.Sem:=tab (ylH l)
theorem ygI {C:Ctx} {P:Program}: ∀ (l:List (Qf C P)),∀ p∈ylH l,ZN C P p.1 p.2
 |[],p,h=>by simp [ylH] at h
 |q::r,p,h=>by
  rcases aA.1 h with rfl|h
  ·exact q.ok
  ·exact ygI r p h
def yuo (p:Code→Prop) (L:List Code):Nat→Nat→Prop
 |0,_=>True
 |n+1,k=>p (L.getD k .skip)∧yuo p L n (k+1)
theorem ynC {p:Code→Prop} {L:List Code}: ∀ (n k:Nat),yuo p L n k→ ∀ j,k≤j→j<k+n→p (L.getD j .skip)
 |0,k,_,j,h1,h2=>by omega
 |n+1,k,h,j,h1,h2=>by
  by_cases hj:j=k
  ·subst hj
   exact h.1
  ·exact ynC n (k+1) h.2 j (by omega) (by omega)
theorem yEa {p:Code→Prop} {fn:Func} {n:Nat} (hn:Nat.beq (JB (y0L fn)).length n=true) (h:yuo p (JB (y0L fn)) n 0): ∀ c∈JB (y0L fn),p c:=by
 intro c hc
 obtain ⟨j,hj,rfl⟩:=List.mem_iff_getElem.1 hc
 have:=ynC n 0 h j (bQ j) (by have:=an hn;omega)
 rwa [au,aJ hj,Option.getD_some] at this
def fnB (C:Ctx) (f g:Nat) (fn:Func) (sg:Sig) (n:Nat):Bool:=Nat.beq (C.fid f) g&&fn.body.isSome&&yj7 (y0L fn)&&Nat.ble sg.ps.length 50&&Nat.ble sg.ps.length fn.ntmps&&Nat.beq (JB (y0L fn)).length n&&decide (fn.name≠ "runtime.NumGoroutine")
theorem yEb {C:Ctx} {P:Program} (hT:TOk C P) (hm:P.follows .mixedOrders=true) {l:List (Qf C P)} {f g:Nat} {fn:Func} {sg:Sig} {n:Nat} (hfn:P.funcs[g]? =some fn) (hsig:C.sig f=some sg) (hB:fnB C f g fn sg n=true) {lp:Lp} (hloops:yuo (y63 C (ypF l) lp f) (JB (y0L fn)) n 0)
  {F:yJ (C.ins f)→Option (yJ (C.outs f))} (hF: ∀ x,yl9 C (ypF l) lp f fn (y0L fn) sg (C.ins f) (C.outs f) x=F x):ZN C P f F:=by
 simp only [fnB,al,ac] at hB
 obtain ⟨⟨⟨⟨⟨⟨h1,h2⟩,h3⟩,h4⟩,h5⟩,h6⟩,h7⟩:=hB
 have hbody:fn.body=some (y0L fn):=by
  unfold y0L
  cases h:fn.body with
  |none=>simp [h] at h2
  |some c=>rfl
 exact ylF hT hm (y5V _ (ygI l)) (an h1) hfn h7 hbody hsig h3 (yEa h6 hloops) (bU h4) (bU h5) (fun x y h=>(hF x).trans h)
section
variable {P:Program} {C:Ctx}
def ydl:Ty→Value→Bool
 | .int k,.int k' n=>decide (k=k')&&decide (n=0)
 | .bool,.bool b=> !b
 | .str,.string s=>Nat.beq s.data.size 0
 | .sl _ _,.slice none n c=>Nat.beq n 0&&Nat.beq c 0
 |_,_=>false
def y9o:List Ty→List Value→Bool
 |[],[]=>true
 |t::ts,v::vs=>ydl t v&&y9o ts vs
 |_,_=>false
theorem ylI: ∀ (t:Ty) (v:Value),ydl t v=true→v=Q2 t:=by
 intro t v h
 cases t with
 |int k=>
  cases v<;>simp [ydl] at h
  obtain ⟨rfl,rfl⟩:=h
  rfl
 |bool=>
  cases v<;>simp [ydl] at h
  subst h
  rfl
 |str=>
  cases v<;>try (simp [ydl] at h;done)
  rename_i s
  have:=an h
  obtain ⟨d⟩:=s
  have:d= #[]:=bW this
  subst this
  rfl
 |sl e ts=>
  cases v<;>try (simp [ydl] at h;done)
  rename_i a n c
  cases a with
  |some _=>simp [ydl] at h
  |none=>
   simp only [ydl,al] at h
   rw [an h.1,an h.2]
   rfl
theorem ydm: ∀ (ts:List Ty) (vs:List Value),y9o ts vs=true→vs=ts.map Q2
 |[],[],_=>rfl
 |t::ts,v::vs,h=>by
  simp only [y9o,al] at h
  rw [ylI t v h.1,ydm ts vs h.2]
  rfl
 |[],_::_,h=>by simp [y9o] at h
 |_::_,[],h=>by simp [y9o] at h
def y7N:List Ty→List Ty→Option (List Ty)
 |[],l=>some l
 |t::r,u::l=>bif Ty.eqb t u then y7N r l else none
 |_::_,[]=>none
theorem y9p: ∀ (p l l':List Ty),y7N p l=some l'→l=p++l'
 |[],l,l',h=>by injection h
 |t::r,u::l,l',h=>by
  rw [y7N] at h
  cases hb:Ty.eqb t u with
  |false=>simp [hb] at h
  |true=>
   rw [hb,ai] at h
   rw [Ty.eqb_eq _ _ hb,y9p r l l' h]
   rfl
 |_::_,[],_,h=>by simp [y7N] at h
def ypG (C:Ctx):List (Nat×Nat)→List Field→List Ty→Nat→Bool
 |[],[],ts,_=>vT ts
 |(off,t)::fs,f::F,ts,n=>Nat.beq off n&&Nat.beq f.offset n&&Nat.beq f.type t&&match C.info t with
  |some ti=>(match y7N ti.ts ts with
   |some ts'=>ypG C fs F ts' (n+ti.ts.length)
   |none=>false)
  |none=>false
 |_,_,_,_=>false
theorem yja: ∀ (fs:List (Nat×Nat)) (F:List Field) (ts:List Ty) (n:Nat),ypG C fs F ts n=true→y1j C fs F ts n
 |[],[],ts,n,h=>by
  cases ts with
  |nil=>rfl
  |cons _ _=>simp [ypG,vT] at h
 |(off,t)::fs,f::F,ts,n,h=>by
  simp only [ypG,al] at h
  obtain ⟨⟨⟨h1,h2⟩,h3⟩,h4⟩:=h
  split at h4
  ·rename_i ti hti
   split at h4
   ·rename_i ts' hd
    exact ⟨an h1,an h2,an h3,ti,ts',hti,y9p _ _ _ hd,yja fs F ts' _ h4⟩
   ·cases h4
  ·cases h4
 |[],_::_,_,_,h=>by simp [ypG] at h
 |_::_,[],_,_,h=>by simp [ypG] at h
theorem ydn: ∀ (fs:List (Nat×Nat)) (F:List Field) (ts:List Ty) (n:Nat),y1j C fs F ts n→F.length=fs.length∧ ∀ (f off t:Nat),fs[f]? =some (off,t)→ ∃ fl,F[f]? =some fl∧fl.offset=off∧fl.type=t∧ ∃ ti,C.info t=some ti∧off+ti.ts.length≤n+ts.length
 |[],[],ts,n,h=>⟨rfl,fun f off t hf=>by simp at hf⟩
 |(o1,t1)::fs,f1::F,ts,n,h=>by
  obtain ⟨rfl,h2,h3,ti,ts',h4,rfl,h5⟩:=h
  obtain ⟨i1,i2⟩:=ydn fs F ts' _ h5
  refine ⟨by simp [i1],fun f off t hf=> ?_⟩
  cases f with
  |zero=>
   simp only [bz,ap,aY] at hf
   obtain ⟨rfl,rfl⟩:=hf
   exact ⟨f1,rfl,h2,h3,ti,h4,by simp⟩
  |succ f=>
   obtain ⟨fl,j1,j2,j3,ti',j4,j5⟩:=i2 f off t (by simpa using hf)
   refine ⟨fl,by simpa using j1,j2,j3,ti',j4,?_⟩
   simp only [ar]
   omega
 |[],_::_,_,_,h=>h.elim
 |_::_,[],_,_,h=>h.elim
def ya4 (C:Ctx):TI→TypeDesc→Bool
 | .c (.int k) _,.int k'=>decide (k'=k)
 | .c .bool _,.bool=>true
 | .c .str _,.string=>true
 | .c (.sl e ts) _,.slice e'=>Nat.beq e' e&&match C.info e with
  |some te=>Ty.eqbs te.ts ts
  |none=>false
 | .s fs ts _,.struct F=>ypG C fs F.toList ts 0
 |_,_=>false
theorem ygJ {ti:TI} {d:TypeDesc} (h:ya4 C ti d=true):ycK C P ti d∧ ∀ fs ts b,ti= .s fs ts b→ ∃ F,d= .struct F∧y1j C fs F.toList ts 0:=by
 cases ti with
 |c t b=>
  refine ⟨?_,fun fs ts b h=>by cases h⟩
  cases t with
  |int k=>
   cases d<;>simp [ya4] at h
   subst h
   rfl
  |bool=>cases d<;>simp [ya4] at h;rfl
  |str=>cases d<;>simp [ya4] at h;rfl
  |sl e ts=>
   cases d<;>try (simp [ya4] at h;done)
   rename_i e'
   simp only [ya4,al] at h
   have he:=an h.1
   have h2:=h.2
   split at h2
   ·rename_i te hte
    exact ⟨by rw [he],te,hte,Ty.eqbs_eq _ _ h2⟩
   ·cases h2
 |s fs ts b=>
  cases d<;>try (simp [ya4] at h;done)
  rename_i F
  have hf:=yja fs F.toList ts 0 h
  obtain ⟨h1,h2⟩:=ydn fs F.toList ts 0 hf
  refine ⟨⟨F,rfl,by simpa using h1,fun f off t hft=> ?_⟩,fun fs' ts' b' h=>by
   injection h with e1 e2 e3
   subst e1 e2
   exact ⟨F,rfl,hf⟩⟩
  obtain ⟨fl,j1,j2,j3,ti,j4,j5⟩:=h2 f off t hft
  exact ⟨fl,by simpa using j1,j2,j3,ti,j4,by simpa using j5⟩
def eqB (P:Program) (t:Nat):TI→Bool
 | .c _ _=>true
 | .s _ _ _=> !P.stoodInHeld t&& !P.eqGuardType P.depth t&&(P.fieldsOf t).toList.all fun f=>f.name != "_"
def tiB (P:Program) (C:Ctx) (t:Nat) (ti:TI):Bool:=match P.info? t,P.underlying t with
 |some i,some d=>Nat.beq i.size ti.ts.length&&Nat.beq i.bytes ti.bytes&&(match i.zero with
  |some z=>y9o ti.ts z.cells.toList
  |none=>false)&&Nat.blt 0 ti.ts.length&&Nat.blt 0 ti.bytes&&ya4 C ti d&&eqB P t ti
 |_,_=>false
def yEc (P:Program) (C:Ctx):List (Nat×TI)→Bool
 |[]=>true
 |(t,ti)::r=>tiB P C t ti&&yEc P C r
theorem ydo {α:Type} {p:Nat→α→Bool}: ∀ (l:List (Nat×α)),(∀ q∈l,p q.1 q.2=true)→ ∀ i x,yeV l i=some x→p i x=true
 |(j,y)::r,h,i,x,hx=>by
  rw [yeV] at hx
  by_cases hj:j=i
  ·subst hj
   rw [yp,ai] at hx
   injection hx with hx
   subst hx
   exact h (j,y) (by simp)
  ·rw [yB hj,ag] at hx
   exact ydo r (fun q hq=>h q (by simp [hq])) i x hx
theorem yup {l:List (Nat×TI)} (hC:C.info=yeV l) (h:yEc P C l=true):TOk C P:=by
 have hall: ∀ t ti,C.info t=some ti→tiB P C t ti=true:=by
  rw [hC]
  refine ydo (p:=tiB P C) l ?_
  clear hC
  induction l with
  |nil=>intro q hq;simp at hq
  |cons q l ih=>
   obtain ⟨t,ti⟩:=q
   simp only [yEc,al] at h
   intro p hp
   rcases aA.1 hp with rfl|hp
   ·exact h.1
   ·exact ih h.2 p hp
 have main: ∀ t ti,C.info t=some ti→ ∃ i z d,P.info? t=some i∧P.underlying t=some d∧i.size=ti.ts.length∧i.bytes=ti.bytes∧i.zero=some z∧z.cells.toList=ti.ts.map Q2∧0<ti.ts.length∧0<ti.bytes∧ya4 C ti d=true∧eqB P t ti=true:=fun t ti ht=>by
  have hb:=hall t ti ht
  unfold tiB at hb
  split at hb
  ·rename_i i d hi hd
   simp only [al] at hb
   obtain ⟨⟨⟨⟨⟨⟨h1,h2⟩,h3⟩,h4⟩,h5⟩,h6⟩,h7⟩:=hb
   split at h3
   ·rename_i z hz
    exact ⟨i,z,d,hi,hd,an h1,an h2,hz,ydm _ _ h3,wM h4,wM h5,h6,h7⟩
   ·cases h3
  ·cases hb
 refine ⟨fun t ti ht=> ?_,fun t ti ht=> ?_,fun t fs ts b ht=> ?_,fun t fs ts b ht=> ?_⟩
 ·obtain ⟨i,z,d,a1,a2,a3,a4,a5,a6,a7,a8,a9,a10⟩:=main t ti ht
  exact ⟨i,z,a1,a3,a4,a5,a6,a7,a8⟩
 ·obtain ⟨i,z,d,a1,a2,a3,a4,a5,a6,a7,a8,a9,a10⟩:=main t ti ht
  exact ⟨d,a2,(ygJ a9).1⟩
 ·obtain ⟨i,z,d,a1,a2,a3,a4,a5,a6,a7,a8,a9,a10⟩:=main t _ ht
  obtain ⟨F,rfl,hF⟩:=(ygJ (P:=P) a9).2 fs ts b rfl
  exact ⟨F,a2,hF⟩
 ·obtain ⟨i,z,d,a1,a2,a3,a4,a5,a6,a7,a8,a9,a10⟩:=main t _ ht
  simp only [eqB,al,bd,cT,bne_iff_ne] at a10
  exact ⟨a10.1.1,a10.1.2,a10.2⟩
end
section
variable {P:Program} {C:Ctx}
mutual
def okT:(t:Ty)→El t→Prop
 | .int k,n=>(Lit.int k n).wf=true
 | .bool,_=>True
 | .str,s=>ByteArray.size s≤maxLen
 | .sl _ ts,xs=>List.length xs≤maxLen∧ ∀ x∈(show List (yJ ts) from xs),okE ts x
def okE:(ts:List Ty)→yJ ts→Prop
 |[],_=>True
 |t::[],x=>okT t x
 |t::u::r,x=>okT t x.1∧okE (u::r) x.2
end
theorem yEd {α:Type} {n:Nat} {Q:Nat→α→Prop} (h: ∀ i,i<n→ ∃ a,Q i a): ∃ l:List α,l.length=n∧ ∀ i a,l[i]? =some a→Q i a:=by
 induction n with
 |zero=>exact ⟨[],rfl,fun i a ha=>by simp at ha⟩
 |succ n ih=>
  obtain ⟨l,hl,hq⟩:=ih (fun i hi=>h i (by omega))
  obtain ⟨a,ha⟩:=h n (by omega)
  refine ⟨l++[a],by simp [hl],fun i b hb=> ?_⟩
  by_cases hi:i<l.length
  ·rw [aE hi] at hb
   exact hq i b hb
  ·rw [az (by omega)] at hb
   have h0:i - l.length=0:=by
    by_cases h0:i - l.length=0
    ·exact h0
    ·rw [bE (by simp;omega)] at hb
     cases hb
   rw [h0] at hb
   have hb':a=b:=by simpa using hb
   subst hb'
   have:i=n:=by omega
   subst this
   exact ha
theorem ylJ {H:Hp} (t:Ty) (r:List Ty) (x:El t) (y:yJ r) (f:Nat→Option Value) {v:Value} (hv:f 0=some v) (hx:RdT H t x v) (hy:RdE H r y (fun i=>f (i+1))) (okx:okT t x) (oky:okE r y): ∃ z:yJ (t::r),RdE H (t::r) z f∧okE (t::r) z:=by
 cases r with
 |nil=>exact ⟨x,⟨v,hv,hx⟩,okx⟩
 |cons u r=>exact ⟨(x,y),⟨⟨v,hv,hx⟩,hy⟩,okx,oky⟩
theorem yi3 {H:Hp} (t:Ty) (r:List Ty) (z:yJ (t::r)) (f:Nat→Option Value) (h:RdE H (t::r) z f) (ok:okE (t::r) z): ∃ (x:El t) (y:yJ r) (v:Value),f 0=some v∧RdT H t x v∧RdE H r y (fun i=>f (i+1))∧okT t x∧okE r y:=by
 cases r with
 |nil=>
  obtain ⟨v,hv,hx⟩:=h
  exact ⟨z,(),v,hv,hx,trivial,ok,trivial⟩
 |cons u r=>
  obtain ⟨⟨v,hv,hx⟩,hy⟩:=h
  exact ⟨z.1,z.2,v,hv,hx,hy,ok.1,ok.2⟩
theorem y9q {H:Hp}: ∀ (ts us:List Ty) (x:yJ ts) (y:yJ us) (f:Nat→Option Value),RdE H ts x f→RdE H us y (fun i=>f (ts.length+i))→okE ts x→okE us y→ ∃ z:yJ (ts++us),RdE H (ts++us) z f∧okE (ts++us) z:=by
 intro ts
 induction ts with
 |nil=>
  intro us x y f _ hy _ oky
  exact ⟨y,by simpa using hy,oky⟩
 |cons t ts ih=>
  intro us x y f hx hy okx oky
  obtain ⟨x0,x1,v,hv,h0,h1,ok0,ok1⟩:=yi3 t ts x f hx okx
  obtain ⟨z,hz,okz⟩:=ih us x1 y (fun i=>f (i+1)) h1 (by
   have e:(fun i=>f (ts.length+i+1))=fun i=>f ((t::ts).length+i):=funext fun i=>by
    rw [ah]
    congr 1
    omega
   show RdE H us y (fun i=>f (ts.length+i+1))
   rw [e]
   exact hy) ok1 oky
  exact ylJ t (ts++us) x0 z f hv h0 hz ok0 okz
theorem y5y (hT:TOk C P) {t:Nat} {ti:TI} (ht:C.info t=some ti):P.cellsOf t=ti.ts.length:=by
 obtain ⟨i,z,hi,hs,_⟩:=hT.info t ti ht
 simp [Program.cellsOf,hi,hs]
theorem yEe (hT:TOk C P) {H:Type} (enc:TypeId×Value→H) (W:World): ∀ (fuel:Nat) (t:Nat) (ti:TI) (cs:List Value) (x:DataW H×List MemPlace),C.info t=some ti→DataW.trod enc P W 0 (fun _=>true) true fuel t cs=some x→
  ∃ y:yJ ti.ts,RdE (Zv W) ti.ts y (fun i=>cs[i]?)∧okE ti.ts y∧cs.length=ti.ts.length:=by
 intro fuel
 induction fuel with
 |zero=>intro t ti cs x _ h;simp [DataW.trod] at h
 |succ fuel ih=>
  intro t ti cs x ht h
  obtain ⟨d,hd,hdesc⟩:=hT.und t ti ht
  cases ti with
  |c ty b=>
   cases ty with
   |int k=>
    have hdesc:d= .int k:=hdesc
    subst hdesc
    obtain ⟨n,rfl,rfl,wf⟩:=DataW.trod_int hd h
    exact ⟨n,⟨_,rfl,rfl⟩,wf,rfl⟩
   |bool=>
    have hdesc:d= .bool:=hdesc
    subst hdesc
    obtain ⟨n,rfl,rfl⟩:=DataW.trod_bool hd h
    exact ⟨n,⟨_,rfl,rfl⟩,trivial,rfl⟩
   |str=>
    have hdesc:d= .string:=hdesc
    subst hdesc
    obtain ⟨s,rfl,rfl,hs⟩:=DataW.trod_string hd h
    exact ⟨s,⟨_,rfl,rfl⟩,hs,rfl⟩
   |sl e ts=>
    obtain ⟨rfl,te,hte,rfl⟩:=hdesc
    rcases DataW.trod_slice hd h with ⟨rfl,rfl⟩|⟨a,len,cap,elems,rest,n,hn,rfl,rfl,_,hl,hm,hlen,hel,_,_⟩
    ·exact ⟨([]:List (yJ te.ts)),⟨_,rfl,none,0,rfl,aS _,by simp,fun hp=>absurd hp (by simp)⟩,⟨by simp [maxLen],fun x hx=>by cases hx⟩,rfl⟩
    ·have hn':fuel=n:=by omega
     subst hn'
     have hce:=y5y hT hte
     obtain ⟨l,hll,hq⟩:=yEd (n:=len) (Q:=fun i (y:yJ te.ts)=>okE te.ts y∧ ∃ c:List Value,RdE (Zv W) te.ts y (fun j=>c[j]?)∧c.length=te.ts.length∧ ∀ j,j<P.cellsOf e→W.cell? ((a.add (i*P.cellsOf e)).add j)=c[j]?) (fun i hil=>by
      have he:=hel i hil
      rw [aJ (by omega)] at he
      obtain ⟨cs',hc,ht'⟩:=Option.bind_eq_some_iff.1 he
      obtain ⟨y,hr,hok,hlc⟩:=ih e te cs' _ hte ht'
      obtain ⟨_,_,hat⟩:=World.cells?_some hc
      exact ⟨y,hok,cs',hr,hlc,hat⟩)
     have h63:cap≤9223372036854775807:=by simpa [maxLen] using hm
     refine ⟨l,⟨_,rfl,some a,cap,by rw [hll],by omega,by omega,fun _=>⟨a,rfl,fun j x hj=> ?_⟩⟩,⟨by omega,fun x hx=> ?_⟩,rfl⟩
     ·obtain ⟨_,c,hr,hlc,hat⟩:=hq j x hj
      refine RdE.ext te.ts x _ _ (fun i v hi hv=> ?_) hr
      rw [yhy,← Go.Deep.add_add,← hce,hat i (by omega)]
      exact hv
     ·obtain ⟨i,hi',rfl⟩:=List.getElem_of_mem hx
      exact (hq i _ (aJ hi')).1
  |s fs ts b=>
   obtain ⟨F,hF,hfo⟩:=hT.flds t fs ts b ht
   obtain ⟨xs,n,hn,_,hl,hlx,hf⟩:=DataW.trod_struct hF h
   have hn':fuel=n:=by omega
   subst hn'
   have hce:=y5y hT ht
   have key: ∀ (fs:List (Nat×Nat)) (F:List Field) (ts:List Ty) (n0:Nat) (xs:List (DataW H×List MemPlace)),y1j C fs F ts n0→xs.length=F.length→n0+ts.length=cs.length→(∀ (i:Nat) (f:Field),F[i]? =some f→DataW.trod enc P W 0 (fun _=>true) true fuel f.type ((cs.drop f.offset).take (P.cellsOf f.type))=xs[i]?)→
     ∃ y:yJ ts,RdE (Zv W) ts y (fun i=>cs[n0+i]?)∧okE ts y:=by
    intro fs
    induction fs with
    |nil=>
     intro F ts n0 xs hfo _ _ _
     cases F with
     |nil=>
      have:ts=[]:=hfo
      subst this
      exact ⟨(),trivial,trivial⟩
     |cons _ _=>exact hfo.elim
    |cons q fs ihf=>
     intro F ts n0 xs hfo hxl hlen hf
     obtain ⟨off,t1⟩:=q
     cases F with
     |nil=>exact hfo.elim
     |cons f1 F=>
      obtain ⟨rfl,h2,h3,ti1,ts',h4,rfl,h5⟩:=hfo
      have h0:=hf 0 f1 rfl
      cases xs with
      |nil=>simp at hxl
      |cons x1 xs=>
       rw [h2,h3] at h0
       have hce1:=y5y hT h4
       obtain ⟨y1,r1,ok1,l1⟩:=ih t1 ti1 _ x1 h4 h0
       simp only [ar] at hlen
       obtain ⟨y2,r2,ok2⟩:=ihf F ts' (off+ti1.ts.length) xs h5 (by simpa using hxl) (by omega) (fun i f hi=>by simpa using hf (i+1) f (by simpa using hi))
       refine y9q ti1.ts ts' y1 y2 _ (RdE.ext _ _ _ _ (fun i v hi hv=> ?_) r1) (by
        have e:(fun i=>cs[off+ti1.ts.length+i]?)=fun i=>cs[off+(ti1.ts.length+i)]? :=funext fun i=>by rw [bN]
        show RdE (Zv W) ts' y2 (fun i=>cs[off+(ti1.ts.length+i)]?)
        rw [← e]
        exact r2) ok1 ok2
       rw [aD,af (by omega),aZ] at hv
       exact hv
   obtain ⟨y,hr,hok⟩:=key fs F.toList ts 0 xs hfo (by rw [hlx,aN]) (by rw [hl,hce];simp [TI.ts]) (fun i f hi=>hf i f (by simpa using hi))
   have hr':RdE (Zv W) ts y (fun i=>cs[i]?):=by simpa using hr
   exact ⟨y,hr',hok,by rw [hl,hce]⟩
end
section
open Go.RowKit Go.ChangeShapes Go.WideShapes
variable {P:Program} {C:Ctx}
def y9r (W:World) (ps:List PK) (args:List Value) (x:yJ (ps.flatMap PK.ins)) (vs:List Value):Prop:=
 RdE (Zv W) (ps.flatMap PK.ins) x (fun i=>vs[i]?)∧okE (ps.flatMap PK.ins) x∧vs.length=(ps.flatMap PK.ins).length∧qD W ps args vs []
theorem yi4 (W:World): ∃ x vs,y9r W [] [] x vs:=⟨(),[],trivial,trivial,rfl,rfl,rfl,rfl⟩
theorem yi5 {W:World} {agg:Bool} {ts:List Ty} {own:List Bool} {ps:List PK} {v:Value} {args cs:List Value} {y:yJ ts} (hr:RdE (Zv W) ts y (fun i=>cs[i]?)) (hok:okE ts y) (hl:cs.length=ts.length)
  (hv:if agg then v= .agg cs.toArray else cs=[v]) (ih: ∃ x vs,y9r W ps args x vs): ∃ x vs,y9r W (.v agg ts own::ps) (v::args) x vs:=by
 obtain ⟨x,vs,h1,h2,h3,h4⟩:=ih
 obtain ⟨z,hz,okz⟩:=y9q (H:=Zv W) ts (ps.flatMap PK.ins) y x (fun i=>(cs++vs)[i]?) (RdE.ext _ _ _ _ (fun i u hi hu=>by
   rw [aE (by omega)]
   exact hu) hr) (RdE.ext _ _ _ _ (fun i u hi hu=>by
   rw [az (by omega),show ts.length+i - cs.length=i by omega]
   exact hu) h1) hok h2
 exact ⟨z,cs++vs,hz,okz,by simp [hl,h3,PK.ins],v,cs,args,vs,rfl,rfl,hl,hv,h4⟩
theorem yfq (hT:TOk C P) {H:Type} {enc:TypeId×Value→H} {W:World} {t:Nat} {ty:Ty} {b:Nat} (ht:C.info t=some (.c ty b)) {own:List Bool} {ps:List PK} {r:Reach} {b0:Nat} {v:Value} {args:List Value} {dt:DataW H} {p:List MemPlace}
  (hv:Value.okWide P W r b0 t v) (htr:DataW.Trod enc P W 0 (fun _=>true) true t v dt p) (ih: ∃ x vs,y9r W ps args x vs): ∃ x vs,y9r W (.v false [ty] own::ps) (v::args) x vs:=by
 obtain ⟨fuel,hf⟩:=htr
 obtain ⟨y,hr,hok,hl⟩:=yEe hT enc W fuel t _ _ _ ht hf
 have hc:v.cells.toList=[v]:=by
  obtain ⟨d,hd,hdesc⟩:=hT.und t _ ht
  cases ty with
  |int k=>
   have hdesc:d= .int k:=hdesc
   subst hdesc
   obtain ⟨n,rfl⟩:=okWide_int hd hv
   rfl
  |bool=>
   have hdesc:d= .bool:=hdesc
   subst hdesc
   simp only [Value.okWide,hd,Cell.okWide] at hv
   cases v<;>simp_all [Cell.ok,Value.cells]
  |str=>
   have hdesc:d= .string:=hdesc
   subst hdesc
   obtain ⟨n,rfl⟩:=okWide_string hd hv
   rfl
  |sl e ts=>
   obtain ⟨rfl,_⟩:=hdesc
   obtain ⟨a,l,c,rfl⟩:=okWide_slice hd hv
   rfl
 exact yi5 (cs:=v.cells.toList) (y:=y) hr hok hl (by simpa using hc) ih
def yjb:(ts:List Ty)→yJ ts→Prop
 |[.bool],b=>b=true
 |_,_=>False
theorem yjc {H:Hp} {w:World}: ∀ (ts:List Ty) (os:List Bool) (x:yJ ts) (vs:List Value),(∀ b∈os,b=false)→RdE H ts x (fun i=>vs[i]?)→vs.length=ts.length→ ∃ bs,kX false H w ts os x vs bs∧ ∀ k,¬ In bs k:=by
 have one: ∀ (t:Ty) (x:El t) (v:Value),RdT H t x v→y8y false H w t false x v (fun _=>False):=by
  intro t x v hr
  cases t<;>exact ⟨rfl,hr⟩
 have hd: ∀ os:List Bool,(∀ b∈os,b=false)→os.headD false=false:=by
  intro os h
  cases os with
  |nil=>rfl
  |cons b os=>exact h b (by simp)
 intro ts
 induction ts with
 |nil=>
  intro os x vs _ _ hl
  have:vs=[]:=aP.1 hl
  subst this
  exact ⟨[],⟨rfl,rfl⟩,fun _=>In.nil⟩
 |cons t ts ih=>
  intro os x vs ho hr hl
  cases vs with
  |nil=>simp at hl
  |cons v vs=>
   cases ts with
   |nil=>
    have:vs=[]:=aP.1 (by simpa using hl)
    subst this
    obtain ⟨u,hu,hru⟩:=hr
    have:v=u:=by simpa using hu
    subst this
    exact ⟨[fun _=>False],⟨v,fun _=>False,rfl,rfl,by rw [hd os ho];exact one t x v hru⟩,by simp [In]⟩
   |cons u r=>
    obtain ⟨⟨u',hu,hru⟩,hs⟩:=hr
    have:v=u':=by simpa using hu
    subst this
    obtain ⟨bs,h1,h2⟩:=ih os.tail x.2 vs (fun b hb=>ho b (List.mem_of_mem_tail hb)) (by simpa using hs) (by simpa using hl)
    exact ⟨(fun _=>False)::bs,⟨v,fun _=>False,vs,bs,rfl,rfl,by rw [hd os ho];exact one t x.1 v hru,h1⟩,fun k hk=>(In.cons.1 hk).elim (fun h=>h) (h2 k)⟩
theorem yjd {f:Nat} {F:yJ (C.ins f)→Option (yJ (C.outs f))} (hF:ZN C P f F) {ps:List PK} {o:List Bool} (hsig:C.sig f=some ⟨ps,[⟨false,[.bool],o⟩],false,false,false⟩) (hfid:C.fid f=f) (hps:ps.all (fun p=> !p.isP&&p.ownsIn.all (fun b=> !b))=true)
  {fn:Func} (hfn:P.funcs[f]? =some fn) (hn:fn.name≠ "runtime.NumGoroutine") (hb:fn.body≠none) {W:World} (hgl:C.gl (Zv W)) {args:List Value} (hargs: ∃ x vs,y9r W ps args x vs)
  (hpure: ∀ x:yJ (C.ins f),okE (C.ins f) x→ ∃ y,F x=some y∧yjb (C.outs f) y):Calls P f args.toArray W fun e W'=>e= .returned (.bool true)∧Below W.heap.size W W':=by
 obtain ⟨x,vs,h1,h2,h3,h4⟩:=hargs
 have hins:C.ins f=ps.flatMap PK.ins:=by simp [Ctx.ins,hsig,Sig.ins]
 have hnoP: ∀ p∈ps,p.outs=[]∧ ∀ b∈p.ownsIn,b=false:=fun p hp=>by
  have:=cT.1 hps p hp
  simp only [al,bd] at this
  refine ⟨?_,fun b hb=> ?_⟩
  ·cases p with
   |v _ _ _=>rfl
   |k _=>rfl
   |p _ _ _=>simp [PK.isP] at this
  ·have:=cT.1 this.2 b hb
   simpa using this
 have houts:C.outs f=[.bool]:=by
  have: ∀ ps:List PK,(∀ p∈ps,p.outs=[])→ps.flatMap PK.outs=[]:=fun ps h=>by
   induction ps with
   |nil=>rfl
   |cons p ps ih=>simp [List.flatMap_cons,h p (by simp),ih (fun q hq=>h q (by simp [hq]))]
  simp [Ctx.outs,hsig,Sig.outs,Sig.bts,this ps (fun p hp=>(hnoP p hp).1)]
 have key: ∀ (ins outs:List Ty) (F:yJ ins→Option (yJ outs)) (hi:ins=ps.flatMap PK.ins) (ho:outs=[.bool]),(∀ x:yJ ins,okE ins x→ ∃ y,F x=some y∧yjb outs y)→ ∃ x':yJ ins,RdE (Zv W) ins x' (fun i=>vs[i]?)∧vs.length=ins.length∧ ∃ y,F x'=some y∧yjb outs y:=by
  intro ins outs F hi ho hp
  subst hi ho
  exact ⟨x,h1,h3,hp x h2⟩
 obtain ⟨x',hr,hl,y,hy,hty⟩:=key (C.ins f) (C.outs f) F hins houts hpure
 obtain ⟨bs,c1,c2⟩:=yjc (w:=W) (C.ins f) (ps.flatMap PK.ownsIn) x' vs (fun b hb=>by
  obtain ⟨p,hp,hb⟩:=List.mem_flatMap.1 hb
  exact (hnoP p hp).2 b hb) hr hl
 have hnl: ∀ k,¬ Kf bs [] k:=fun k hk=>by
  rcases hk with hk|⟨p,hp,_⟩
  ·exact c2 k hk
  ·simp at hp
 have hap:y3A bs:=by
  unfold y3A
  exact List.Pairwise.imp_of_mem (R:=fun _ _=>True) (fun {b c} hb _ _ k hk=>absurd ⟨b,hb,hk⟩ (c2 k)) (List.pairwise_of_forall (fun _ _=>trivial))
 have hg:=hF ⟨ps,[⟨false,[.bool],o⟩],false,false,false⟩ x' y hsig hy W (Zv W) args vs bs [] hgl (Hp.le.refl _) c1 hap h4 List.Pairwise.nil (fun k hk=>absurd hk (hnl k)) (by simp)
 have he:(callFunc f args.toArray).run P W= .ok (.enter f args.toArray) W:=by simp [callFunc,hfn,hn,hb]
 unfold ycA at hg
 rw [hfid,he] at hg
 refine Calls.mono hg fun e W' hv=> ?_
 obtain ⟨v,rfl,H',vs',cs,rest,bs',hleft⟩:=hv
 refine ⟨?_,hleft.os,hleft.tape,hleft.output,hleft.size,fun k hk=>hleft.old k hk (hnl k)⟩
 have hcells:=hleft.cells
 obtain ⟨nb,hra,_⟩:=hleft.res
 obtain ⟨_,hspread,hvv⟩:nb=none∧y1n [⟨false,[.bool],o⟩] vs' cs rest∧v=y4G cs:=hra
 have hval: ∀ (outs:List Ty) (ow:List Bool) (y:yJ outs),outs=[.bool]→yjb outs y→kX false H' W' outs ow y vs' bs'→vs'=[.bool true]:=by
  intro outs ow y ho hty hc
  subst ho
  obtain ⟨v,b,rfl,_,hc⟩:=hc
  have hy:y=true:=hty
  subst hy
  have:v= .bool true:=by
   cases ow.headD false<;>exact hc.2
  rw [this]
 have hvs:=hval _ _ y houts hty hcells
 obtain ⟨vs1,vs2,c,cs',e1,e2,e3,e4,e5⟩:=hspread
 obtain ⟨rfl,_⟩:=e5
 have e4':vs1=[c]:=e4
 rw [hvs,e4'] at e1
 have:c= .bool true:=by
  have:=congrArg List.head? e1
  simpa using this.symm
 rw [hvv,e3,this]
 rfl
end
section
variable {P:Program} {C:Ctx}
theorem y3g {w:World}: ∀ (ps:List PK) (args vs:List Value) (pb:List (Nat×Nat)),(∀ p∈ps,p.isP=false)→qD w ps args vs pb→pb=[]:=by
 intro ps
 induction ps with
 |nil=>intro args vs pb _ h;exact h.2.2
 |cons p ps ih=>
  intro args vs pb hp h
  cases p with
  |v agg ts os=>
   obtain ⟨arg,vs1,args',vs',_,_,_,_,hs⟩:=h
   exact ih args' vs' pb (fun q hq=>hp q (by simp [hq])) hs
  |k f=>
   obtain ⟨args',_,hs⟩:=h
   exact ih args' vs pb (fun q hq=>hp q (by simp [hq])) hs
  |p wr ts os=>exact absurd (hp (.p wr ts os) (by simp)) (by simp [PK.isP])
end
section
section
variable {α β:Type}
variable {A0 A1 A2 A3 A4 A5 A6 A7 A8 A9 A10 A11 A12 A13 A14 A15 A16 A17 A18 A19 A20 A21 A22 A23 A24 A25 A26:Type}
def Prod.b (x:A0×A1×A2):=x.2.1
def Prod.c (x:A0×A1×A2×A3):=x.2.2.1
def Prod.d (x:A0×A1×A2×A3×A4):=x.2.2.2.1
def Prod.e (x:A0×A1×A2×A3×A4×A5):=x.2.2.2.2.1
def Prod.f (x:A0×A1×A2×A3×A4×A5×A6):=x.2.2.2.2.2.1
def Prod.g (x:A0×A1×A2×A3×A4×A5×A6×A7):=x.2.2.2.2.2.2.1
def Prod.h (x:A0×A1×A2×A3×A4×A5×A6×A7×A8):=x.2.2.2.2.2.2.2.1
def Prod.i (x:A0×A1×A2×A3×A4×A5×A6×A7×A8×A9):=x.2.2.2.2.2.2.2.2.1
def Prod.j (x:A0×A1×A2×A3×A4×A5×A6×A7×A8×A9×A10):=x.2.2.2.2.2.2.2.2.2.1
def Prod.k (x:A0×A1×A2×A3×A4×A5×A6×A7×A8×A9×A10×A11):=x.2.2.2.2.2.2.2.2.2.2.1
def Prod.l (x:A0×A1×A2×A3×A4×A5×A6×A7×A8×A9×A10×A11×A12):=x.2.2.2.2.2.2.2.2.2.2.2.1
def Prod.m (x:A0×A1×A2×A3×A4×A5×A6×A7×A8×A9×A10×A11×A12×A13):=x.2.2.2.2.2.2.2.2.2.2.2.2.1
def Prod.n (x:A0×A1×A2×A3×A4×A5×A6×A7×A8×A9×A10×A11×A12×A13×A14):=x.2.2.2.2.2.2.2.2.2.2.2.2.2.1
def Prod.o (x:A0×A1×A2×A3×A4×A5×A6×A7×A8×A9×A10×A11×A12×A13×A14×A15):=x.2.2.2.2.2.2.2.2.2.2.2.2.2.2.1
def Prod.p (x:A0×A1×A2×A3×A4×A5×A6×A7×A8×A9×A10×A11×A12×A13×A14×A15×A16):=x.2.2.2.2.2.2.2.2.2.2.2.2.2.2.2.1
def Prod.C (x:A0×A1×A2):=x.2.2
def Prod.D (x:A0×A1×A2×A3):=x.2.2.2
def Prod.E (x:A0×A1×A2×A3×A4):=x.2.2.2.2
def Prod.F (x:A0×A1×A2×A3×A4×A5):=x.2.2.2.2.2
def Prod.G (x:A0×A1×A2×A3×A4×A5×A6):=x.2.2.2.2.2.2
def Prod.H (x:A0×A1×A2×A3×A4×A5×A6×A7):=x.2.2.2.2.2.2.2
def Prod.I (x:A0×A1×A2×A3×A4×A5×A6×A7×A8):=x.2.2.2.2.2.2.2.2
def Prod.J (x:A0×A1×A2×A3×A4×A5×A6×A7×A8×A9):=x.2.2.2.2.2.2.2.2.2
def Prod.K (x:A0×A1×A2×A3×A4×A5×A6×A7×A8×A9×A10):=x.2.2.2.2.2.2.2.2.2.2
def Prod.L (x:A0×A1×A2×A3×A4×A5×A6×A7×A8×A9×A10×A11):=x.2.2.2.2.2.2.2.2.2.2.2
def Prod.M (x:A0×A1×A2×A3×A4×A5×A6×A7×A8×A9×A10×A11×A12):=x.2.2.2.2.2.2.2.2.2.2.2.2
def Prod.N (x:A0×A1×A2×A3×A4×A5×A6×A7×A8×A9×A10×A11×A12×A13):=x.2.2.2.2.2.2.2.2.2.2.2.2.2
def Prod.O (x:A0×A1×A2×A3×A4×A5×A6×A7×A8×A9×A10×A11×A12×A13×A14):=x.2.2.2.2.2.2.2.2.2.2.2.2.2.2
def Prod.P (x:A0×A1×A2×A3×A4×A5×A6×A7×A8×A9×A10×A11×A12×A13×A14×A15):=x.2.2.2.2.2.2.2.2.2.2.2.2.2.2.2
def Prod.Q (x:A0×A1×A2×A3×A4×A5×A6×A7×A8×A9×A10×A11×A12×A13×A14×A15×A16):=x.2.2.2.2.2.2.2.2.2.2.2.2.2.2.2.2
def Prod.R (x:A0×A1×A2×A3×A4×A5×A6×A7×A8×A9×A10×A11×A12×A13×A14×A15×A16×A17):=x.2.2.2.2.2.2.2.2.2.2.2.2.2.2.2.2.2
def zT3 (x:A0×A1×A2×A3) (y:β):=(x.1,x.2.1,x.2.2.1,y)
def zF3 (x:A0×A1×A2):=(x.1,x.2.1,x.2.2)
def zG3 (x:A0×A1×A2) (y:β):=(x.1,x.2.1,x.2.2,y)
def zT4 (x:A0×A1×A2×A3×A4) (y:β):=(x.1,x.2.1,x.2.2.1,x.2.2.2.1,y)
def zF4 (x:A0×A1×A2×A3):=(x.1,x.2.1,x.2.2.1,x.2.2.2)
def zG4 (x:A0×A1×A2×A3) (y:β):=(x.1,x.2.1,x.2.2.1,x.2.2.2,y)
def zT5 (x:A0×A1×A2×A3×A4×A5) (y:β):=(x.1,x.2.1,x.2.2.1,x.2.2.2.1,x.2.2.2.2.1,y)
def zF5 (x:A0×A1×A2×A3×A4):=(x.1,x.2.1,x.2.2.1,x.2.2.2.1,x.2.2.2.2)
def zG5 (x:A0×A1×A2×A3×A4) (y:β):=(x.1,x.2.1,x.2.2.1,x.2.2.2.1,x.2.2.2.2,y)
def zT6 (x:A0×A1×A2×A3×A4×A5×A6) (y:β):=(x.1,x.2.1,x.2.2.1,x.2.2.2.1,x.2.2.2.2.1,x.2.2.2.2.2.1,y)
def zF6 (x:A0×A1×A2×A3×A4×A5):=(x.1,x.2.1,x.2.2.1,x.2.2.2.1,x.2.2.2.2.1,x.2.2.2.2.2)
def zG6 (x:A0×A1×A2×A3×A4×A5) (y:β):=(x.1,x.2.1,x.2.2.1,x.2.2.2.1,x.2.2.2.2.1,x.2.2.2.2.2,y)
def zT7 (x:A0×A1×A2×A3×A4×A5×A6×A7) (y:β):=(x.1,x.2.1,x.2.2.1,x.2.2.2.1,x.2.2.2.2.1,x.2.2.2.2.2.1,x.2.2.2.2.2.2.1,y)
def zF7 (x:A0×A1×A2×A3×A4×A5×A6):=(x.1,x.2.1,x.2.2.1,x.2.2.2.1,x.2.2.2.2.1,x.2.2.2.2.2.1,x.2.2.2.2.2.2)
def zT8 (x:A0×A1×A2×A3×A4×A5×A6×A7×A8) (y:β):=(x.1,x.2.1,x.2.2.1,x.2.2.2.1,x.2.2.2.2.1,x.2.2.2.2.2.1,x.2.2.2.2.2.2.1,x.2.2.2.2.2.2.2.1,y)
def zF8 (x:A0×A1×A2×A3×A4×A5×A6×A7):=(x.1,x.2.1,x.2.2.1,x.2.2.2.1,x.2.2.2.2.1,x.2.2.2.2.2.1,x.2.2.2.2.2.2.1,x.2.2.2.2.2.2.2)
def zG8 (x:A0×A1×A2×A3×A4×A5×A6×A7) (y:β):=(x.1,x.2.1,x.2.2.1,x.2.2.2.1,x.2.2.2.2.1,x.2.2.2.2.2.1,x.2.2.2.2.2.2.1,x.2.2.2.2.2.2.2,y)
def zT9 (x:A0×A1×A2×A3×A4×A5×A6×A7×A8×A9) (y:β):=(x.1,x.2.1,x.2.2.1,x.2.2.2.1,x.2.2.2.2.1,x.2.2.2.2.2.1,x.2.2.2.2.2.2.1,x.2.2.2.2.2.2.2.1,x.2.2.2.2.2.2.2.2.1,y)
def yLV (x:A0×A1×A2×A3×A4×A5×A6×A7×A8×A9):=(x.1,x.2.1,x.2.2.1,x.2.2.2.1,x.2.2.2.2.1,x.2.2.2.2.2.1,x.2.2.2.2.2.2.1,x.2.2.2.2.2.2.2.1,x.2.2.2.2.2.2.2.2.1,x.2.2.2.2.2.2.2.2.2)
def yLW (x:A0×A1×A2×A3×A4×A5×A6×A7×A8×A9×A10×A11) (y:β):=(x.1,x.2.1,x.2.2.1,x.2.2.2.1,x.2.2.2.2.1,x.2.2.2.2.2.1,x.2.2.2.2.2.2.1,x.2.2.2.2.2.2.2.1,x.2.2.2.2.2.2.2.2.1,x.2.2.2.2.2.2.2.2.2.1,x.2.2.2.2.2.2.2.2.2.2.1,y)
def yq9 (x:A0×A1×A2×A3×A4×A5×A6×A7×A8×A9×A10):=(x.1,x.2.1,x.2.2.1,x.2.2.2.1,x.2.2.2.2.1,x.2.2.2.2.2.1,x.2.2.2.2.2.2.1,x.2.2.2.2.2.2.2.1,x.2.2.2.2.2.2.2.2.1,x.2.2.2.2.2.2.2.2.2.1,x.2.2.2.2.2.2.2.2.2.2)
def yFz (x:A0×A1×A2×A3×A4×A5×A6×A7×A8×A9×A10×A11):=(x.1,x.2.1,x.2.2.1,x.2.2.2.1,x.2.2.2.2.1,x.2.2.2.2.2.1,x.2.2.2.2.2.2.1,x.2.2.2.2.2.2.2.1,x.2.2.2.2.2.2.2.2.1,x.2.2.2.2.2.2.2.2.2.1,x.2.2.2.2.2.2.2.2.2.2.1,x.2.2.2.2.2.2.2.2.2.2.2)
def yFA (x:A0×A1×A2×A3×A4×A5×A6×A7×A8×A9×A10×A11×A12×A13×A14):=(x.1,x.2.1,x.2.2.1,x.2.2.2.1,x.2.2.2.2.1,x.2.2.2.2.2.1,x.2.2.2.2.2.2.1,x.2.2.2.2.2.2.2.1,x.2.2.2.2.2.2.2.2.1,x.2.2.2.2.2.2.2.2.2.1,x.2.2.2.2.2.2.2.2.2.2.1,x.2.2.2.2.2.2.2.2.2.2.2.1,x.2.2.2.2.2.2.2.2.2.2.2.2.1,x.2.2.2.2.2.2.2.2.2.2.2.2.2.1,x.2.2.2.2.2.2.2.2.2.2.2.2.2.2)
def List.z (x:List α):Int:=(List.length x:Int)
def zbd (a:Option α) (f:α→Option β):=Option.bind a f
def zso (a:α):=some a
def zif (c:Bool) (a b:α):=bif c then a else b
def zix (x:List α) (i:Int) (k:Option β):Option β:=if (0:Int)≤i then if i<(List.length x:Int) then k else none else none
def zsl (l h n:Int) (k:Option β):Option β:=if (0:Int)≤l then if l≤h then if h≤n then k else none else none else none
def zgd (x y:List α) (n:Nat) (k:Option β):Option β:=if (List.length x+List.length y)*n<140737488355328 then k else none
def zlt (x y:Int) (a b:α):=bif (decide (x<y)) then a else b
def zle (x y:Int) (a b:α):=bif (decide (x≤y)) then a else b
def zgt (x y:Int) (a b:α):=bif (decide (x>y)) then a else b
def zge (x y:Int) (a b:α):=bif (decide (x≥y)) then a else b
def zeq (x y:Int) (a b:α):=bif (x==y) then a else b
def zne (x y:Int) (a b:α):=bif (x !=y) then a else b
def zOr (c d:Bool):=bif c then some true else some d
def zOm (c:Bool) (m:Option Bool):=bif c then some true else m
def zan (c d:Bool) (k:Bool→Option β):=Option.bind (bif c then some d else some false) k
def zor (c d:Bool) (k:Bool→Option β):=Option.bind (bif c then some true else some d) k
def zam (c:Bool) (m:Option Bool) (k:Bool→Option β):=Option.bind (bif c then m else some false) k
def zom (c:Bool) (m:Option Bool) (k:Bool→Option β):=Option.bind (bif c then some true else m) k
def zwr (x:Int):=Go.IntKind.wrap .i64 x
def zad (x y:Int):=Go.IntKind.wrap .i64 (x+y)
def zml (x y:Int):=Go.IntKind.wrap .i64 (x*y)
def zin (x:Int):=Go.IntKind.wrap .i64 (x+(1:Int))
def zde (x:Int):=Go.IntKind.wrap .i64 (x - (1:Int))
def zup (x:List α) (i:Int) (v:α):=List.set x (Int.toNat i) v
def zcu (x:List α) (l h:Int):=List.drop (Int.toNat l) (List.take (Int.toNat h) x)
end
abbrev nz {α:Type} (a:α) {b:α} (_:a=b:=by conv=>lhs;try delta Prod.b Prod.c Prod.d Prod.e Prod.f Prod.g Prod.h Prod.i Prod.j Prod.k Prod.l Prod.m Prod.n Prod.o Prod.p Prod.C Prod.D Prod.E Prod.F Prod.G Prod.H Prod.I Prod.J Prod.K Prod.L Prod.M Prod.N Prod.O Prod.P Prod.Q Prod.R zT3 zF3 zG3 zT4 zF4 zG4 zT5 zF5 zG5 zT6 zF6 zG6 zT7 zF7 zT8 zF8 zG8 zT9 yLV yLW yq9 yFz yFA List.z zbd zso zif zix zsl zgd zlt zle zgt zge zeq zne zOr zOm zan zor zam zom zwr zad zml zin zde zup zcu):α:=b
end
end Go.Proofs.YtekbnpmmjciloaaGreat.R
