/- Base, Loops, Keys, Pool, Tree, Seen, Rng, Walk, See, Oks, Whole, Trees, Names, PoolOk, PoolOk2, PoolOk3, PutPool0, SetSrt, Join, CopyPool, Next, NodePut, JoinT, TreePut, CutAge, Calm, Prune, Prune2. No condition. -/
import Derived.Test.YtekbnpmmjciloaaGreatDA1
import Derived.Laws.BitsLemmas
set_option linter.all false
namespace Go.Proofs.YtekbnpmmjciloaaGreat.Pl
open Go.Proofs.YtekbnpmmjciloaaGreat.R Go.Proofs.YtekbnpmmjciloaaGreat.XA
theorem ytr {T R:Type} {step:(T→Option R)→T→Option R} (μ:T→Nat) (inv:T→Prop) (G:T→Option R)
  (h: ∀ again t,inv t→(∀ t',inv t'→μ t'<μ t→again t'=G t')→step again t=G t): ∀ (n:Nat) (t:T),inv t→μ t<n→zI step n t=G t:=by
 intro n
 induction n with
 |zero=>intro t _ hn;omega
 |succ n ih=>
  intro t ht hn
  rw [zI]
  exact h _ t ht fun t' ht' hlt=>ih t' ht' (by omega)
theorem Z2 {T R:Type} {step:(T→Option R)→T→Option R} (μ:T→Nat) (inv:T→Prop) (G:T→Option R)
  (h: ∀ again t,inv t→(∀ t',inv t'→μ t'<μ t→again t'=G t')→step again t=G t) (t:T) (ht:inv t) (hn:μ t<18446744073709551616):zI step zY t=G t:=
 ytr μ inv G h zY t ht (by rw [y1s];exact hn)
theorem w64 {n:Int} (h0: -9223372036854775808≤n) (h1:n≤9223372036854775807):Go.IntKind.wrap .i64 n=n:=by
 rw [IntKind.wrap_i64]
 omega
def inR (x a b:Int):Bool:=decide (a≤x)&&decide (x≤b)
theorem zX {x a b:Int}:inR x a b=true↔a≤x∧x≤b:=by simp [inR]
theorem yib (n:Nat) (h:n<9223372036854775808):IntKind.i64.wrap (n:Int)=n:=by
 rw [IntKind.wrap_i64]
 omega
theorem yfK (x:Int):((BitVec.ofInt 64 x).toNat:Int)=x % 18446744073709551616:=by
 rw [BitVec.toNat_ofInt]
 omega
theorem yn1 (x:Int) (m:Nat) (j:Nat) (hj:j<63) (hm:m=2 ^ j - 1):bits .and .i64 x m=x % (2 ^ j:Nat):=by
 have hd:(2 ^ j:Nat)∣18446744073709551616:=by
  have:(18446744073709551616:Nat)=2 ^ j*2 ^ (64 - j):=by rw [← Nat.pow_add,show j+(64 - j)=64 by omega]
  rw [this]
  exact Nat.dvd_mul_right _ _
 have hlt:m<18446744073709551616:=by
  have:2 ^ j≤2 ^ 64:=Nat.pow_le_pow_right (by omega) (by omega)
  have h1:0<2 ^ j:=Nat.two_pow_pos j
  omega
 have hj63:2 ^ j<9223372036854775808:=by
  have:2 ^ j≤2 ^ 62:=Nat.pow_le_pow_right (by omega) (by omega)
  omega
 show IntKind.i64.wrap ((BitVec.ofInt 64 x&&& BitVec.ofInt 64 (m:Int)).toNat:Int)=_
 rw [BitVec.toNat_and,BitVec.ofInt_natCast,BitVec.toNat_ofNat,Nat.mod_eq_of_lt hlt,hm,Nat.and_two_pow_sub_one_eq_mod]
 have h2:=Nat.mod_lt (BitVec.ofInt 64 x).toNat (Nat.two_pow_pos j)
 rw [yib _ (by omega),Int.natCast_emod,yfK]
 exact Int.emod_emod_of_dvd _ (Int.ofNat_dvd.2 hd)
theorem yDi (x:Int):bits .and .i64 x 255=x % 256:=yn1 x 255 8 (by omega) (by decide)
def ycc (l:List Int):Prop:= ∀ x∈l,0≤x∧x<256
def by_ (l:List Int) (i:Int):Int:=l.getD i.toNat 0
theorem yh5 {l:List Int} (h:ycc l) (i:Int):0≤by_ l i∧by_ l i<256:=by
 unfold by_
 rw [au]
 cases hl:l[i.toNat]? with
 |none=>simp
 |some x=>exact h x (aV hl)
end Go.Proofs.YtekbnpmmjciloaaGreat.Pl
namespace Go.Proofs.YtekbnpmmjciloaaGreat.Pl
open Go.Proofs.YtekbnpmmjciloaaGreat.R Go.Proofs.YtekbnpmmjciloaaGreat.XA
theorem Yc {T R:Type} {step:(T→Option R)→T→Option R} (μ:T→Nat) (inv:T→Prop) (Q:T→Option R→Prop)
  (h: ∀ again t,inv t→(∀ t',inv t'→μ t'<μ t→Q t' (again t'))→Q t (step again t)) (t:T) (ht:inv t) (hn:μ t<18446744073709551616):Q t (zI step zY t):=by
 have key: ∀ (n:Nat) (t:T),inv t→μ t<n→Q t (zI step n t):=by
  intro n
  induction n with
  |zero=>intro t _ hn;omega
  |succ n ih=>
   intro t ht hn
   rw [zI]
   exact h _ t ht fun t' ht' hlt=>ih t' ht' (by omega)
 exact key zY t ht (by rw [y1s];exact hn)
theorem ycd {A:Type} (da:A) (l:List A) (i:Int) (h0:0≤i) (h:i<l.length):l.getD i.toNat da=l[i.toNat]'(by omega):=by
 rw [au,aJ (by omega)]
 rfl
theorem z5 {A:Type} (da:A) (l:List A) (i:Int) (h0:0≤i) (h:i<l.length):l.getD i.toNat da∈l:=by
 rw [ycd da l i h0 h]
 exact cR _
theorem Jr {A:Type} (da:A) (l:List A) (i:Int) (h0:0≤i) (h:i<l.length):l.drop i.toNat=l.getD i.toNat da::l.drop (i+1).toNat:=by
 rw [ycd da l i h0 h,show (i+1).toNat=i.toNat+1 by omega,← bP]
def K7 {A:Type} (w:A→Int) (l:List A):Int:=l.foldr (fun a s=>w a+s) 0
theorem Z3 {A:Type} (w:A→Int) (a:A) (l:List A):K7 w (a::l)=w a+K7 w l:=rfl
theorem y3k {A:Type} {w:A→Int} (hw: ∀ a,0≤w a): ∀ {l:List A} {a:A},a∈l→w a≤K7 w l∧0≤K7 w l
 |b::l,a,h=>by
  have hs:0≤K7 w l:=by
   clear h
   induction l with
   |nil=>exact aH _
   |cons c l ih=>rw [Z3];have:=hw c;omega
  rw [Z3]
  have:=hw b
  rcases aA.1 h with rfl|h
  ·omega
  ·have:=(y3k hw h).1
   omega
theorem kT {A:Type} {w:A→Int} (hw: ∀ a,0≤w a) (l:List A):0≤K7 w l:=by
 induction l with
 |nil=>exact aH _
 |cons c l ih=>rw [Z3];have:=hw c;omega
end Go.Proofs.YtekbnpmmjciloaaGreat.Pl
namespace Go.Proofs.YtekbnpmmjciloaaGreat.Pl
open Go.Proofs.YtekbnpmmjciloaaGreat.R Go.Proofs.YtekbnpmmjciloaaGreat.XA
theorem YO {T A S R:Type} {step:(T→Option R)→T→Option R} (mk:Int→S→T) (k:S→Option R) (da:A) (g:S→A→S) (l:List A) (hl:l.length≤1099511627776) (I:Nat→S→Prop)
  (h: ∀ again i s,0≤i→i<(l.length:Int)→I i.toNat s→step again (mk i s)=again (mk (i+1) (g s (l.getD i.toNat da)))∧I (i.toNat+1) (g s (l.getD i.toNat da)))
  (hd: ∀ again i s,¬ i<(l.length:Int)→step again (mk i s)=k s) (s:S) (hs:I 0 s):zI step zY (mk 0 s)=k (l.foldl g s):=by
 have key: ∀ (n:Nat) (i:Int) (s:S),0≤i→i≤l.length→I i.toNat s→l.length - i.toNat<n→zI step n (mk i s)=k ((l.drop i.toNat).foldl g s):=by
  intro n
  induction n with
  |zero=>intro i s _ _ _ hn;omega
  |succ n ih=>
   intro i s h0 h1 hI hn
   rw [zI]
   by_cases hi:i<(l.length:Int)
   ·obtain ⟨e,hI'⟩:=h (zI step n) i s h0 hi hI
    have e1:(i+1).toNat=i.toNat+1:=by omega
    rw [e,ih (i+1) _ (by omega) (by omega) (by rw [e1];exact hI') (by omega),Jr da l i h0 hi]
    rfl
   ·rw [hd _ i s hi,bO (by omega)]
    rfl
 have:=key zY 0 s (by omega) (by omega) hs (by rw [y1s];simp;omega)
 simpa using this
def y1x (c k:y8):Bool:=if c.1<k.1 then true else if c.1=k.1 then decide (c.2.1<k.2.1) else false
def y1y (c k:y8):Bool:=decide (c.1=k.1)&&decide (c.2.1=k.2.1)
theorem y2U (a1 a2 a3 a4 a5 b1 b2 b3 b4 b5:Int):wu (a1,a2,a3,a4,a5,b1,b2,b3,b4,b5)=some (y1x (a1,a2,a3,a4,a5) (b1,b2,b3,b4,b5)):=by
 unfold wu y1x nz
 by_cases h:a1=b1
 ·subst h
  simp
 ·have hb:(a1==b1)=false:=by simpa using h
  have hb':(a1 !=b1)=true:=by simpa using h
  by_cases h2:a1<b1<;>simp [h,h2,hb,hb']
theorem y2V (a1 a2 a3 a4 a5 b1 b2 b3 b4 b5:Int):wy (a1,a2,a3,a4,a5,b1,b2,b3,b4,b5)=some (y1x (a1,a2,a3,a4,a5) (b1,b2,b3,b4,b5)):=by
 unfold wy y1x nz
 by_cases h:a1=b1
 ·subst h
  simp
 ·have hb:(a1==b1)=false:=by simpa using h
  have hb':(a1 !=b1)=true:=by simpa using h
  by_cases h2:a1<b1<;>simp [h,h2,hb,hb']
theorem y6s (a1 a2 a3 a4 a5 b1 b2 b3 b4 b5:Int):jZ (a1,a2,a3,a4,a5,b1,b2,b3,b4,b5)=some (y1y (a1,a2,a3,a4,a5) (b1,b2,b3,b4,b5)):=by
 unfold jZ y1y nz
 have e1:(a1==b1)=decide (a1=b1):=rfl
 have e2:(a2==b2)=decide (a2=b2):=rfl
 simp only [e1,e2]
 cases decide (a1=b1)<;>cases decide (a2=b2)<;>rfl
theorem y6t (a1 a2 a3 a4 a5 b1 b2 b3 b4 b5:Int):Ja (a1,a2,a3,a4,a5,b1,b2,b3,b4,b5)=some (y1y (a1,a2,a3,a4,a5) (b1,b2,b3,b4,b5)):=by
 unfold Ja y1y nz
 have e1:(a1==b1)=decide (a1=b1):=rfl
 have e2:(a2==b2)=decide (a2=b2):=rfl
 simp only [e1,e2]
 cases decide (a1=b1)<;>cases decide (a2=b2)<;>rfl
theorem yE3 {n k:Nat} (h:n≤1073741825) (hk:(1073741825+k)*40<140737488355328):(n+k)*40<140737488355328:=by omega
def wC (k:y8) (s:Bool×List y8) (c:y8):Bool×List y8:=
 if s.1=false∧y1x c k=false then (true,if y1y c k then s.2++[k] else s.2++[k]++[c]) else (s.1,if y1y c k then s.2 else s.2++[c])
def WV (l:List y8) (k:y8):List y8:=
 let r:=l.foldl (wC k) (false,[])
 if r.1 then r.2 else r.2++[k]
def pN (p:Bool):Nat:=if p then 1 else 0
theorem y7W (k:y8) (s:Bool×List y8) (c:y8):(wC k s c).2.length+pN s.1≤s.2.length+1+pN (wC k s c).1∧pN (wC k s c).1≤1:=by
 unfold wC pN
 obtain ⟨p,o⟩:=s
 cases p<;>cases y1x c k<;>cases y1y c k<;>simp
theorem y3l (k:y8): ∀ (l:List y8) (s:Bool×List y8),(l.foldl (wC k) s).2.length+pN s.1≤s.2.length+l.length+pN (l.foldl (wC k) s).1
 |[],s=>by simp
 |c::l,s=>by
  have h1:=(y7W k s c).1
  have h2:=y3l k l (wC k s c)
  simp only [ba,ah] at h2 ⊢
  omega
theorem WQ (l:List y8) (k:y8):(WV l k).length≤l.length+1:=by
 have h:=y3l k l (false,[])
 unfold WV
 simp only [pN,aj,aX,aU] at h ⊢
 cases hr:(l.foldl (wC k) (false,[])).1 with
 |true=>
  rw [hr] at h
  simp at h ⊢
  omega
 |false=>
  rw [hr] at h
  simp at h ⊢
  omega
theorem y6u {R:Type} (k0:Bool×Int×Int×Int×Int×Int×List y8→Option R) (again:Kl→Option R) (l:List y8) (i:Int) (p:Bool) (a b c d e:Int) (o:List y8) (hl:l.length≤1073741824) (h0:0≤i) (h1:i<(l.length:Int)) (ho:o.length≤1073741825):
  ZP k0 again (l,p,i,a,b,c,d,e,o)=again (l,(wC (a,b,c,d,e) (p,o) (l.getD i.toNat yX)).1,i+1,a,b,c,d,e,(wC (a,b,c,d,e) (p,o) (l.getD i.toNat yX)).2):=by
 have hw:Go.IntKind.wrap .i64 (i+1)=i+1:=w64 (by omega) (by omega)
 have c1:(o.length+(0+1))*40<140737488355328:=yE3 ho (by decide)
 have c2:(o.length+(0+1)+(0+1))*40<140737488355328:=by rw [bN];exact yE3 ho (by decide)
 obtain ⟨⟨x1,x2,x3,x4,x5⟩,hx⟩: ∃ x,yi l i=x:=⟨_,rfl⟩
 have hx':l.getD i.toNat yX=(x1,x2,x3,x4,x5):=hx
 rw [hx']
 unfold ZP nz
 simp only [ae,ac,h0,h1,aB,hw,hx,y2U,y6s,aa,ar,ah,aj]
 unfold wC
 generalize y1x (x1,x2,x3,x4,x5) (a,b,c,d,e)=q1
 generalize y1y (x1,x2,x3,x4,x5) (a,b,c,d,e)=q2
 simp only [c1,c2,aB]
 cases p<;>cases q1<;>cases q2<;>rfl
theorem y6v {R:Type} (k0:Bool×Int×Int×Int×Int×Int×List y8→Option R) (l:List y8) (a b c d e:Int) (hl:l.length≤1073741824):
  Qa k0 (l,false,0,a,b,c,d,e,[])=k0 ((l.foldl (wC (a,b,c,d,e)) (false,[])).1,a,b,c,d,e,(l.foldl (wC (a,b,c,d,e)) (false,[])).2):=by
 unfold Qa
 refine YO (step:=ZP k0) (fun (i:Int) (s:Bool×List y8)=>(l,s.1,i,a,b,c,d,e,s.2)) (fun s=>k0 (s.1,a,b,c,d,e,s.2)) yX (wC (a,b,c,d,e)) l (by omega) (fun i s=>s.2.length≤i+pN s.1) ?_ ?_ (false,[]) (by simp)
 ·rintro again i ⟨p,o⟩ h0 h1 hI
  have hp:pN p≤1:=by cases p<;>decide
  have hI':o.length≤i.toNat+pN p:=hI
  clear hI
  refine ⟨y6u k0 again l i p a b c d e o hl h0 h1 (by omega),?_⟩
  have ho:=(y7W (a,b,c,d,e) (p,o) (l.getD i.toNat yX)).1
  show (wC (a,b,c,d,e) (p,o) (l.getD i.toNat yX)).2.length≤i.toNat+1+pN (wC (a,b,c,d,e) (p,o) (l.getD i.toNat yX)).1
  generalize (wC (a,b,c,d,e) (p,o) (l.getD i.toNat yX))=r at ho ⊢
  simp only at ho
  omega
 ·rintro again i ⟨p,o⟩ hi
  show ZP k0 again (l,p,i,a,b,c,d,e,o)=_
  unfold ZP nz
  simp only [ae,ac,am hi]
theorem kD (l:List y8) (a b c d e:Int) (hl:l.length≤1073741824):zT (l,a,b,c,d,e)=some (WV l (a,b,c,d,e)):=by
 have hlen:=y3l (a,b,c,d,e) l (false,[])
 unfold zT WV nz
 rw [y6v _ l a b c d e hl]
 generalize l.foldl (wC (a,b,c,d,e)) (false,[])=r at hlen ⊢
 obtain ⟨q,o⟩:=r
 cases q with
 |true=>rfl
 |false=>
  simp only [pN,aj,aX,aU] at hlen
  simp only [bf,ai,ah,aj,aX,aU]
  rw [af (by omega)]
theorem y6w {R:Type} (k0:Bool×Int×Int×Int×Int×Int×List y8→Option R) (again:KZ→Option R) (l:List y8) (i:Int) (p:Bool) (a b c d e:Int) (o:List y8) (hl:l.length≤1073741824) (h0:0≤i) (h1:i<(l.length:Int)) (ho:o.length≤1073741825):
  ZW k0 again (p,l,(l.length:Int),i,a,b,c,d,e,o)=again ((wC (a,b,c,d,e) (p,o) (l.getD i.toNat yX)).1,l,(l.length:Int),i+1,a,b,c,d,e,(wC (a,b,c,d,e) (p,o) (l.getD i.toNat yX)).2):=by
 have hw:Go.IntKind.wrap .i64 (i+1)=i+1:=w64 (by omega) (by omega)
 have c1:(o.length+(0+1))*40<140737488355328:=yE3 ho (by decide)
 have c2:(o.length+(0+1)+(0+1))*40<140737488355328:=by rw [bN];exact yE3 ho (by decide)
 obtain ⟨⟨x1,x2,x3,x4,x5⟩,hx⟩: ∃ x,yi l i=x:=⟨_,rfl⟩
 have hx':l.getD i.toNat yX=(x1,x2,x3,x4,x5):=hx
 rw [hx']
 unfold ZW nz
 simp only [ae,ac,h0,h1,aB,hw,hx,y2V,y6t,aa,ar,ah,aj]
 unfold wC
 generalize y1x (x1,x2,x3,x4,x5) (a,b,c,d,e)=q1
 generalize y1y (x1,x2,x3,x4,x5) (a,b,c,d,e)=q2
 simp only [c1,c2,aB]
 cases p<;>cases q1<;>cases q2<;>rfl
theorem y6x {R:Type} (k0:Bool×Int×Int×Int×Int×Int×List y8→Option R) (l:List y8) (a b c d e:Int) (hl:l.length≤1073741824):
  Qx k0 (false,l,(l.length:Int),0,a,b,c,d,e,[])=k0 ((l.foldl (wC (a,b,c,d,e)) (false,[])).1,a,b,c,d,e,(l.foldl (wC (a,b,c,d,e)) (false,[])).2):=by
 unfold Qx
 refine YO (step:=ZW k0) (fun (i:Int) (s:Bool×List y8)=>(s.1,l,(l.length:Int),i,a,b,c,d,e,s.2)) (fun s=>k0 (s.1,a,b,c,d,e,s.2)) yX (wC (a,b,c,d,e)) l (by omega) (fun i s=>s.2.length≤i+pN s.1) ?_ ?_ (false,[]) (by simp)
 ·rintro again i ⟨p,o⟩ h0 h1 hI
  have hp:pN p≤1:=by cases p<;>decide
  have hI':o.length≤i.toNat+pN p:=hI
  clear hI
  refine ⟨y6w k0 again l i p a b c d e o hl h0 h1 (by omega),?_⟩
  have ho:=(y7W (a,b,c,d,e) (p,o) (l.getD i.toNat yX)).1
  show (wC (a,b,c,d,e) (p,o) (l.getD i.toNat yX)).2.length≤i.toNat+1+pN (wC (a,b,c,d,e) (p,o) (l.getD i.toNat yX)).1
  generalize (wC (a,b,c,d,e) (p,o) (l.getD i.toNat yX))=r at ho ⊢
  simp only at ho
  omega
 ·rintro again i ⟨p,o⟩ hi
  show ZW k0 again (p,l,(l.length:Int),i,a,b,c,d,e,o)=_
  unfold ZW nz
  simp only [ae,ac,am hi]
theorem y0u (l:List y8) (a b c d e:Int) (hl:l.length≤1073741824):JJ (l,a,b,c,d,e)=some (WV l (a,b,c,d,e)):=by
 have hlen:=y3l (a,b,c,d,e) l (false,[])
 unfold JJ WV nz
 rw [y6x _ l a b c d e hl]
 generalize l.foldl (wC (a,b,c,d,e)) (false,[])=r at hlen ⊢
 obtain ⟨q,o⟩:=r
 cases q with
 |true=>rfl
 |false=>
  simp only [pN,aj,aX,aU] at hlen
  simp only [bf,ai,ah,aj,aX,aU]
  rw [af (by omega)]
end Go.Proofs.YtekbnpmmjciloaaGreat.Pl
namespace Go.Proofs.YtekbnpmmjciloaaGreat.Pl
open Go.Proofs.YtekbnpmmjciloaaGreat.R Go.Proofs.YtekbnpmmjciloaaGreat.XA
def y22 (l:List ya):Int:=(List.length l:Int)+K7 (fun a:ya=>(List.length a:Int)) l
theorem qa (l:List ya):0≤y22 l:=by
 have:=kT (w:=fun a:ya=>(List.length a:Int)) (fun a=>Int.natCast_nonneg _) l
 unfold y22
 omega
end Go.Proofs.YtekbnpmmjciloaaGreat.Pl
namespace Go.Proofs.YtekbnpmmjciloaaGreat.Pl
open Go.Proofs.YtekbnpmmjciloaaGreat.R Go.Proofs.YtekbnpmmjciloaaGreat.XA
def K8 (a b:List y8):List y8:=b.foldl WV a
theorem y3m: ∀ (b a:List y8),(K8 a b).length≤a.length+b.length
 |[],a=>by simp [K8]
 |c::b,a=>by
  have h:=y3m b (WV a c)
  have h2:=WQ a c
  unfold K8 at h ⊢
  simp only [ba,ah] at h ⊢
  omega
def QQ (s:List y8) (c:y8):List y8:=if c.2.2.1=0 then s else s++[c]
def y7X (l:List y8):List y8:=l.foldl QQ []
theorem y4f (s:List y8) (c:y8):(QQ s c).length≤s.length+1:=by
 unfold QQ
 split<;>simp
theorem y7Y: ∀ (l s:List y8),(l.foldl QQ s).length≤s.length+l.length
 |[],s=>by simp
 |c::l,s=>by
  have h:=y7Y l (QQ s c)
  have h2:=y4f s c
  simp only [ba,ah]
  omega
def QX (a:ya):Int:=(List.length a:Int)
theorem Vu (a:ya):0≤QX a:=Int.natCast_nonneg _
def zo (n:List ya):List y8:=y7X (n.foldl K8 [])
theorem y4T: ∀ (n:List ya) (s:List y8),((n.foldl K8 s).length:Int)≤s.length+K7 QX n
 |[],s=>by simp [K7]
 |c::n,s=>by
  have h:=y4T n (K8 s c)
  have h2:=y3m c s
  simp only [ba,Z3,QX]
  omega
theorem QR (n:List ya):((zo n).length:Int)≤K7 QX n:=by
 have h:=y7Y (n.foldl K8 []) []
 have h2:=y4T n []
 unfold zo y7X
 simp only [aj] at h h2
 omega
theorem y4U (n:List ya):K7 QX n≤y22 n:=by
 show K7 (fun a:ya=>(List.length a:Int)) n≤(List.length n:Int)+K7 (fun a:ya=>(List.length a:Int)) n
 omega
def qu (s:List y8) (n:y0):List y8:=s++zo n
def yW (t:List y0):List y8:=t.foldl qu []
theorem y5B (a b:List y8) (h:a.length+b.length≤1073741824):jc (a,b)=some (K8 a b):=by
 unfold jc y04 nz
 simp only [aj,aK,aT]
 rw [af (by omega)]
 refine YO (step:=jp _) (fun (i:Int) (s:List y8)=>(b,i,s)) (fun s=>some s) yX WV b (by omega) (fun i s=>s.length≤a.length+i) ?_ ?_ a (by simp)
 ·intro again i s h0 h1 hI
  have hw:Go.IntKind.wrap .i64 (i+1)=i+1:=w64 (by omega) (by omega)
  have hs:=WQ s (b.getD i.toNat yX)
  have e:=kD s (yi b i).1 (yi b i).2.1 (yi b i).2.2.1 (yi b i).2.2.2.1 (yi b i).2.2.2.2 (by omega)
  refine ⟨?_,by omega⟩
  unfold jp nz
  simp only [ae,ac,h0,h1,aB,hw,e,aa]
  rfl
 ·intro again i s hi
  unfold jp nz
  simp only [ae,ac,am hi]
theorem y2W (l:List y8) (h:l.length≤1073741824):YG l=some (y7X l):=by
 unfold YG y4Q nz
 refine YO (step:=Kj _) (fun (i:Int) (s:List y8)=>(l,i,s)) (fun s=>some s) yX QQ l (by omega) (fun i s=>s.length≤i) ?_ ?_ [] (by simp)
 ·intro again i s h0 h1 hI
  have hw:Go.IntKind.wrap .i64 (i+1)=i+1:=w64 (by omega) (by omega)
  have hs:=y4f s (l.getD i.toNat yX)
  refine ⟨?_,by omega⟩
  have c1:(s.length+1)*40<140737488355328:=by omega
  clear hs
  unfold Kj QQ nz
  obtain ⟨⟨x1,x2,x3,x4,x5⟩,hx⟩: ∃ x,yi l i=x:=⟨_,rfl⟩
  have hx':l.getD i.toNat yX=(x1,x2,x3,x4,x5):=hx
  rw [hx']
  simp only [ae,ac,h0,h1,aB,hw,hx,ah,aj,aK,c1]
  by_cases h3:x3=0
  ·rw [am (by simpa using h3),af h3]
  ·rw [af (by simpa using h3),am h3]
 ·intro again i s hi
  unfold Kj nz
  simp only [ae,ac,am hi]
theorem jj (n:List ya) (hn:n.length≤1073741824) (h:K7 QX n≤1048576):yI n=some (zo n):=by
 have hlen:=y4T n []
 simp only [aj] at hlen
 have hD:=y2W (n.foldl K8 []) (by omega)
 unfold yI y0O nz
 refine (YO (step:=J0 _) (fun (i:Int) (s:List y8)=>(i,n,s)) (fun s=>Option.bind (YG s) fun r3=>some r3) zk K8 n (by omega) (fun i s=>(s.length:Int)+K7 QX (n.drop i)≤K7 QX n) ?_ ?_ [] (by simp)).trans ?_
 ·intro again i s h0 h1 hI
  have hw:Go.IntKind.wrap .i64 (i+1)=i+1:=w64 (by omega) (by omega)
  rw [Jr zk n i h0 h1,Z3,show (i+1).toNat=i.toNat+1 by omega] at hI
  have hnn:=kT Vu (n.drop (i.toNat+1))
  have hm:=y3m (n.getD i.toNat zk) s
  have hk:QX (n.getD i.toNat zk)=(List.length (n.getD i.toNat zk):Int):=rfl
  have e:jc (s,yu n i)=some (K8 s (yu n i)):=y5B s _ (by show s.length+List.length (n.getD i.toNat zk)≤_;omega)
  refine ⟨?_,by omega⟩
  unfold J0 nz
  simp only [ae,ac,h0,h1,aB,hw,e,aa]
  rfl
 ·intro again i s hi
  unfold J0 nz
  simp only [ae,ac,am hi]
 ·rw [hD]
  rfl
theorem YX (q:List Int) (t:List y0) (ht:t.length≤1073741824) (hm: ∀ n∈t,List.length n≤1073741824) (h:K7 y22 t≤1048576):yY (q,t)=some (yW t):=by
 unfold yY y0P nz
 refine YO (step:=J1 _) (fun (i:Int) (s:List y8)=>(i,q,t,s)) (fun s=>some s) yH qu t (by omega) (fun i s=>(s.length:Int)+K7 y22 (t.drop i)≤K7 y22 t) ?_ ?_ [] (by simp)
 ·intro again i s h0 h1 hI
  have hw:Go.IntKind.wrap .i64 (i+1)=i+1:=w64 (by omega) (by omega)
  rw [Jr yH t i h0 h1,Z3,show (i+1).toNat=i.toNat+1 by omega] at hI
  have hnn:=kT qa (t.drop (i.toNat+1))
  have hge:=y4U (t.getD i.toNat yH)
  have hk:=QR (t.getD i.toNat yH)
  have e:yI (yk t i)=some (zo (yk t i)):=jj _ (hm _ (z5 yH t i h0 h1)) (by show K7 QX (t.getD i.toNat yH)≤_;omega)
  have hT:(qu s (t.getD i.toNat yH)).length=s.length+(zo (t.getD i.toNat yH)).length:=ar
  have c1:(s.length+(zo (yk t i)).length)*40<140737488355328:=by
   show (s.length+(zo (t.getD i.toNat yH)).length)*40<140737488355328
   generalize (zo (t.getD i.toNat yH)).length=m at hk ⊢
   clear hT e
   have:s.length+m≤1048576:=by omega
   omega
  refine ⟨?_,by rw [hT];omega⟩
  unfold J1 nz
  simp only [ae,ac,h0,h1,aB,hw,e,aa,c1]
  rfl
 ·intro again i s hi
  unfold J1 nz
  simp only [ae,ac,am hi]
theorem y5C (a b:List y8) (h:a.length+b.length≤1073741824):jg (a,b)=some (K8 a b):=by
 unfold jg YK y08 nz
 simp only [aj,aK,aT]
 rw [af (by omega),aa]
 refine YO (step:=jB _) (fun (i:Int) (s:List y8)=>(b,(b.length:Int),i,s)) (fun s=>some s) yX WV b (by omega) (fun i s=>s.length≤a.length+i) ?_ ?_ a (by simp)
 ·intro again i s h0 h1 hI
  have hw:Go.IntKind.wrap .i64 (i+1)=i+1:=w64 (by omega) (by omega)
  have hs:=WQ s (b.getD i.toNat yX)
  have e:=y0u s (yi b i).1 (yi b i).2.1 (yi b i).2.2.1 (yi b i).2.2.2.1 (yi b i).2.2.2.2 (by omega)
  refine ⟨?_,by omega⟩
  unfold jB nz
  simp only [ae,ac,h0,h1,aB,hw,e,aa]
  rfl
 ·intro again i s hi
  unfold jB nz
  simp only [ae,ac,am hi]
theorem y65 (l:List y8) (h:l.length≤1073741824):W9 l=some (y7X l):=by
 unfold W9 y4S nz
 refine YO (step:=vb _) (fun (i:Int) (s:List y8)=>(l,(l.length:Int),i,s)) (fun s=>some s) yX QQ l (by omega) (fun i s=>s.length≤i) ?_ ?_ [] (by simp)
 ·intro again i s h0 h1 hI
  have hw:Go.IntKind.wrap .i64 (i+1)=i+1:=w64 (by omega) (by omega)
  have hs:=y4f s (l.getD i.toNat yX)
  refine ⟨?_,by omega⟩
  have c1:(s.length+1)*40<140737488355328:=by omega
  clear hs
  unfold vb QQ nz
  obtain ⟨⟨x1,x2,x3,x4,x5⟩,hx⟩: ∃ x,yi l i=x:=⟨_,rfl⟩
  have hx':l.getD i.toNat yX=(x1,x2,x3,x4,x5):=hx
  rw [hx']
  simp only [ae,ac,h0,h1,aB,hw,hx,ah,aj,aK,c1]
  by_cases h3:x3=0
  ·rw [am (by simpa using h3),af h3]
  ·rw [af (by simpa using h3),am h3]
 ·intro again i s hi
  unfold vb nz
  simp only [ae,ac,am hi]
theorem wo (n:List ya) (hn:n.length≤1073741824) (h:K7 QX n≤1048576):yZ n=some (zo n):=by
 have hlen:=y4T n []
 simp only [aj] at hlen
 have hD:=y65 (n.foldl K8 []) (by omega)
 unfold yZ y0T nz
 refine (YO (step:=Jb _) (fun (i:Int) (s:List y8)=>(n,(n.length:Int),i,s)) (fun s=>Option.bind (W9 s) fun r3=>some r3) zk K8 n (by omega) (fun i s=>(s.length:Int)+K7 QX (n.drop i)≤K7 QX n) ?_ ?_ [] (by simp)).trans ?_
 ·intro again i s h0 h1 hI
  have hw:Go.IntKind.wrap .i64 (i+1)=i+1:=w64 (by omega) (by omega)
  rw [Jr zk n i h0 h1,Z3,show (i+1).toNat=i.toNat+1 by omega] at hI
  have hnn:=kT Vu (n.drop (i.toNat+1))
  have hm:=y3m (n.getD i.toNat zk) s
  have hk:QX (n.getD i.toNat zk)=(List.length (n.getD i.toNat zk):Int):=rfl
  have e:jg (s,yu n i)=some (K8 s (yu n i)):=y5C s _ (by show s.length+List.length (n.getD i.toNat zk)≤_;omega)
  refine ⟨?_,by omega⟩
  unfold Jb nz
  simp only [ae,ac,h0,h1,aB,hw,e,aa]
  rfl
 ·intro again i s hi
  unfold Jb nz
  simp only [ae,ac,am hi]
 ·rw [hD]
  rfl
theorem wq (q:List Int) (t:List y0) (ht:t.length≤1073741824) (hm: ∀ n∈t,List.length n≤1073741824) (h:K7 y22 t≤1048576):zz (q,t)=some (yW t):=by
 unfold zz y0U nz
 refine YO (step:=Jc _) (fun (i:Int) (s:List y8)=>(t,(t.length:Int),i,s)) (fun s=>some s) yH qu t (by omega) (fun i s=>(s.length:Int)+K7 y22 (t.drop i)≤K7 y22 t) ?_ ?_ [] (by simp)
 ·intro again i s h0 h1 hI
  have hw:Go.IntKind.wrap .i64 (i+1)=i+1:=w64 (by omega) (by omega)
  rw [Jr yH t i h0 h1,Z3,show (i+1).toNat=i.toNat+1 by omega] at hI
  have hnn:=kT qa (t.drop (i.toNat+1))
  have hge:=y4U (t.getD i.toNat yH)
  have hk:=QR (t.getD i.toNat yH)
  have e:yZ (yk t i)=some (zo (yk t i)):=wo _ (hm _ (z5 yH t i h0 h1)) (by show K7 QX (t.getD i.toNat yH)≤_;omega)
  have hT:(qu s (t.getD i.toNat yH)).length=s.length+(zo (t.getD i.toNat yH)).length:=ar
  have c1:(s.length+(zo (yk t i)).length)*40<140737488355328:=by
   show (s.length+(zo (t.getD i.toNat yH)).length)*40<140737488355328
   generalize (zo (t.getD i.toNat yH)).length=m at hk ⊢
   clear hT e
   have:s.length+m≤1048576:=by omega
   omega
  refine ⟨?_,by rw [hT];omega⟩
  unfold Jc nz
  simp only [ae,ac,h0,h1,aB,hw,e,aa,c1]
  rfl
 ·intro again i s hi
  unfold Jc nz
  simp only [ae,ac,am hi]
end Go.Proofs.YtekbnpmmjciloaaGreat.Pl
namespace Go.Proofs.YtekbnpmmjciloaaGreat.Pl
open Go.Proofs.YtekbnpmmjciloaaGreat.R Go.Proofs.YtekbnpmmjciloaaGreat.XA
def ydA {S A R:Type} (g:Int→S→A→Except (Option R) S) (k:S→Option R):List A→Int→S→Option R
 |[],_,s=>k s
 |a::l,i,s=>match g i s a with
  | .error r=>r
  | .ok s'=>ydA g k l (i+1) s'
theorem y7Z {T A S R:Type} {step:(T→Option R)→T→Option R} (mk:Int→S→T) (g:Int→S→A→Except (Option R) S) (k:S→Option R) (da:A) (l:List A) (hl:l.length≤1099511627776) (I:Nat→S→Prop)
  (h: ∀ again i s,0≤i→i<(l.length:Int)→I i.toNat s→(step again (mk i s)=match g i s (l.getD i.toNat da) with
   | .error r=>r
   | .ok s'=>again (mk (i+1) s'))∧ ∀ s',g i s (l.getD i.toNat da)= .ok s'→I (i.toNat+1) s')
  (hd: ∀ again i s,¬ i<(l.length:Int)→step again (mk i s)=k s) (s:S) (hs:I 0 s):zI step zY (mk 0 s)=ydA g k l 0 s:=by
 have key: ∀ (n:Nat) (i:Int) (s:S),0≤i→i≤l.length→I i.toNat s→l.length - i.toNat<n→zI step n (mk i s)=ydA g k (l.drop i.toNat) i s:=by
  intro n
  induction n with
  |zero=>intro i s _ _ _ hn;omega
  |succ n ih=>
   intro i s h0 h1 hI hn
   rw [zI]
   by_cases hi:i<(l.length:Int)
   ·obtain ⟨e,hI'⟩:=h (zI step n) i s h0 hi hI
    have e1:(i+1).toNat=i.toNat+1:=by omega
    rw [e,Jr da l i h0 hi,ydA]
    cases hg:g i s (l.getD i.toNat da) with
    |error r=>rfl
    |ok s'=>exact ih (i+1) s' (by omega) (by omega) (by rw [e1];exact hI' s' hg) (by omega)
   ·rw [hd _ i s hi,bO (by omega)]
    rfl
 have:=key zY 0 s (by omega) (by omega) hs (by rw [y1s];simp;omega)
 simpa using this
def YD {A:Type} (p:A→Bool):List A→Int→Int
 |[],_=> -1
 |a::l,i=>if p a then i else YD p l (i+1)
theorem ydB {A R:Type} (p:A→Bool) (hit:Int→Option R) (miss:Option R): ∀ (l:List A) (i:Int),0≤i→ydA (fun i (_:Unit) a=>if p a then .error (hit i) else .ok ()) (fun _=>miss) l i ()=if YD p l i<0 then miss else hit (YD p l i)
 |[],i,_=>by simp [ydA,YD]
 |a::l,i,h=>by
  rw [ydA,YD]
  by_cases hp:p a=true
  ·rw [af hp,af hp,am (by omega)]
  ·rw [am hp,am hp]
   exact ydB p hit miss l (i+1) (by omega)
theorem Yr {T A R:Type} {step:(T→Option R)→T→Option R} (mk:Int→T) (p:A→Bool) (hit:Int→Option R) (miss:Option R) (da:A) (l:List A) (hl:l.length≤1099511627776)
  (h: ∀ again i,0≤i→i<(l.length:Int)→step again (mk i)=if p (l.getD i.toNat da) then hit i else again (mk (i+1)))
  (hd: ∀ again i,¬ i<(l.length:Int)→step again (mk i)=miss):zI step zY (mk 0)=if YD p l 0<0 then miss else hit (YD p l 0):=by
 rw [← ydB p hit miss l 0 (aH _)]
 refine y7Z (fun i (_:Unit)=>mk i) _ _ da l hl (fun _ _=>True) (fun again i s h0 h1 _=>⟨?_,fun _ _=>trivial⟩) (fun again i s hi=>hd again i hi) () trivial
 rw [h again i h0 h1]
 cases p (l.getD i.toNat da)<;>rfl
theorem Js {A:Type} (p:A→Bool) (da:A): ∀ (l:List A) (i:Int),0≤i→YD p l i= -1∨(i≤YD p l i∧YD p l i<i+l.length∧p (l.getD (YD p l i - i).toNat da)=true)
 |[],i,_=> .inl rfl
 |a::l,i,h=>by
  rw [YD]
  by_cases hp:p a=true
  ·rw [af hp]
   refine .inr ⟨aH _,by simp only [ah];omega,?_⟩
   simpa using hp
  ·rw [am hp]
   rcases Js p da l (i+1) (by omega) with e|⟨e1,e2,e3⟩
   ·exact .inl e
   ·refine .inr ⟨by omega,by simp only [ah];omega,?_⟩
    rw [show (YD p l (i+1) - i).toNat=(YD p l (i+1) - (i+1)).toNat+1 by omega,b9]
    exact e3
def Yk (l:List y7) (id:Int):Int:=YD (fun a:y7=>a.1==id) l 0
theorem y3n (l:List y7) (id:Int):Yk l id= -1∨(0≤Yk l id∧Yk l id<l.length∧(l.getD (Yk l id).toNat YS).1=id):=by
 rcases Js (fun a:y7=>a.1==id) YS l 0 (aH _) with h|⟨h1,h2,h3⟩
 ·exact .inl h
 ·refine .inr ⟨h1,by simpa [Yk] using h2,?_⟩
  have:=eq_of_beq h3
  simpa [Yk] using this
theorem Zg (l:List y7) (id:Int) (hl:l.length≤1073741824):zZ (l,id)=some (Yk l id):=by
 unfold zZ y3I nz
 refine (Yr (step:=kc _ _) (fun i=>(l,id,i)) (fun a:y7=>a.1==id) (fun x=>some x) (some (-1)) YS l (by omega) ?_ ?_).trans ?_
 ·intro again i h0 h1
  have hw:Go.IntKind.wrap .i64 (i+1)=i+1:=w64 (by omega) (by omega)
  unfold kc nz
  simp only [ae,ac,h0,h1,aB,hw]
  rfl
 ·intro again i hi
  unfold kc nz
  simp only [ae,ac,am hi]
 ·rcases y3n l id with h|⟨h1,h2,h3⟩<;>unfold Yk at*
  ·rw [h]
   rfl
  ·rw [am (by omega)]
theorem WR (l:List y7) (id:Int) (hl:l.length≤1073741824):YW (l,id)=some (Yk l id):=by
 have key:zm (l,id)=some (Yk l id,id):=by
  unfold zm Zx nz
  refine (Yr (step:=zb _ _) (fun i=>(l,(l.length:Int),i,id)) (fun a:y7=>a.1==id) (fun x=>some (x,id)) (some (-1,id)) YS l (by omega) ?_ ?_).trans ?_
  ·intro again i h0 h1
   have hw:Go.IntKind.wrap .i64 (i+1)=i+1:=w64 (by omega) (by omega)
   unfold zb VC nz
   simp only [ae,ac,h0,h1,aB,hw,aa]
   rfl
  ·intro again i hi
   unfold zb nz
   simp only [ae,ac,am hi]
  ·rcases y3n l id with h|⟨h1,h2,h3⟩<;>unfold Yk at*
   ·rw [h]
    rfl
   ·rw [am (by omega)]
 unfold YW nz
 rw [key]
 rfl
def yts (l:List Int) (v:Int):Bool:=decide (0≤YD (fun a:Int=>a==v) l 0)
theorem yfL (l:List Int) (v:Int) (hl:l.length≤1073741824):VR (l,v)=some (yts l v):=by
 unfold VR y3L nz
 refine (Yr (step:=ki _ _) (fun i=>(l,v,i)) (fun a:Int=>a==v) (fun _=>some true) (some false) y2d l (by omega) ?_ ?_).trans ?_
 ·intro again i h0 h1
  have hw:Go.IntKind.wrap .i64 (i+1)=i+1:=w64 (by omega) (by omega)
  unfold ki nz
  simp only [ae,ac,h0,h1,aB,hw]
  rfl
 ·intro again i hi
  unfold ki nz
  simp only [ae,ac,am hi]
 ·unfold yts
  by_cases h:YD (fun a:Int=>a==v) l 0<0
  ·rw [af h,aw (by omega)]
  ·rw [am h,ax (by omega)]
theorem yfM (l:List Int) (v:Int) (hl:l.length≤1073741824):Zi (l,v)=some (yts l v):=by
 have key:jH (l,v)=some (YD (fun a:Int=>a==v) l 0):=by
  unfold jH qE nz
  refine (Yr (step:=Zz _ _) (fun i=>(l,v,(l.length:Int),i)) (fun a:Int=>a==v) (fun x=>some x) (some (-1)) y2d l (by omega) ?_ ?_).trans ?_
  ·intro again i h0 h1
   have hw:Go.IntKind.wrap .i64 (i+1)=i+1:=w64 (by omega) (by omega)
   unfold Zz nz
   have e:(v==(zB l i))=((zB l i)==v):=Bool.beq_comm
   simp only [ae,ac,h0,h1,aB,hw,e]
   rfl
  ·intro again i hi
   unfold Zz nz
   simp only [ae,ac,am hi]
  ·rcases Js (fun a:Int=>a==v) y2d l 0 (aH _) with h|⟨h1,h2,h3⟩
   ·rw [h]
    rfl
   ·rw [am (by omega)]
 unfold Zi nz
 rw [key]
 rfl
def y3B (l:List y7):Nat→Int→List Int
 |0,_=>[]
 |n+1,at_=>if at_<0 then [] else (l.getD at_.toNat YS).1::y3B l n (Yk l (l.getD at_.toNat YS).2)
def y3P (l:List y7) (id:Int):List Int:=y3B l (l.length+1) (Yk l id)
theorem ydC (l:List y7) (n:Nat) (i:Int) (h:0≤i):y3B l (n+1) i=(l.getD i.toNat YS).1::y3B l n (Yk l (l.getD i.toNat YS).2):=by rw [y3B,am (by omega)]
theorem ykr (l:List y7) (n:Nat):y3B l n (-1)=[]:=by cases n<;>simp [y3B]
theorem ydD (l:List y7): ∀ (n:Nat) (i:Int),(y3B l n i).length≤n
 |0,_=>by simp [y3B]
 |n+1,i=>by
  rw [y3B]
  split
  ·simp
  ·have:=ydD l n (Yk l (l.getD i.toNat YS).2)
   simp only [ah]
   omega
theorem y3Q (l:List y7) (id:Int) (hl:l.length≤1048576):WF (l,id)=some (y3P l id):=by
 unfold WF y2s y3P nz
 rw [Zg l id (by omega),aa]
 have key:=Z2 (step:=Kx (fun x4=>some x4)) (fun t:Kw=>l.length+1 - t.2.2.length) (fun t=>t.1=l∧t.2.2.length≤l.length+1∧ ∃ id,t.2.1=Yk l id) (fun t=>some (t.2.2++y3B l (l.length+1 - t.2.2.length) t.2.1)) ?_ (l,Yk l id,[]) ⟨rfl,by simp,id,rfl⟩ (by simp;omega)
 ·simpa using key
 ·rintro again ⟨l',at_,o⟩ ⟨hll,ho,id',hid⟩ hag
  simp only at hll ho hid
  subst hll hid
  unfold Kx nz
  simp only [ae,ac,ah,aj,aK]
  rcases y3n l' id' with h|⟨h1,h2,h3⟩
  ·rw [h]
   have:y3B l' (l'.length+1 - o.length) (-1)=[]:=by
    cases l'.length+1 - o.length<;>simp [y3B]
   simp [this]
  ·simp only [ge_iff_le,h1,aB,h2]
   by_cases hlen:(o.length:Int)≤(l'.length:Int)
   ·have e:=Zg l' (yD l' (Yk l' id')).2 (by omega)
    rw [show l'.length+1 - o.length=(l'.length - o.length)+1 by omega,ydC _ _ _ h1]
    simp only [hlen,decide_true,aa,aB,e]
    have hl1:(o++[(yD l' (Yk l' id')).1]).length=o.length+1:=by simp
    rw [af (by omega),hag (l',Yk l' (yD l' (Yk l' id')).2,o++[(yD l' (Yk l' id')).1]) ⟨rfl,by show (o++[(yD l' (Yk l' id')).1]).length≤_;omega,_,rfl⟩ (by show l'.length+1 - (o++[(yD l' (Yk l' id')).1]).length<l'.length+1 - o.length;omega)]
    simp only [hl1]
    rw [show l'.length+1 - (o.length+1)=l'.length - o.length by omega,bo]
    rfl
   ·rw [show l'.length+1 - o.length=0 by omega]
    simp [hlen,y3B]
theorem y3R (l:List y7) (id:Int) (hl:l.length≤1048576):WK (l,id)=some (y3P l id):=by
 unfold WK y2P y3P nz
 simp only
 rw [w64 (n:=(l.length:Int)+1) (by omega) (by omega)]
 have key:=Z2 (step:=vo (fun x2=>some x2)) (fun t:vn=>l.length+1 - t.2.2.2.2.length) (fun t=>t.1=l∧t.2.2.1=(l.length:Int)+1∧t.2.2.2.1=(t.2.2.2.2.length:Int)∧t.2.2.2.2.length≤l.length+1) (fun t=>some (t.2.2.2.2++y3B l (l.length+1 - t.2.2.2.2.length) (Yk l t.2.1))) ?_ (l,id,(l.length:Int)+1,0,[]) ⟨rfl,rfl,by simp,by simp⟩ (by simp;omega)
 ·simpa using key
 ·rintro again ⟨l',id',n,i,o⟩ ⟨hll,hn,hi,ho⟩ hag
  simp only at hll ho hn hi
  subst hll hn hi
  unfold vo nz
  have e:=WR l' id' (by omega)
  simp only [ae,ac,e,aa,ah,aj,aK]
  by_cases hlen:(o.length:Int)<(l'.length:Int)+1
  ·rw [af hlen,show l'.length+1 - o.length=(l'.length - o.length)+1 by omega]
   rcases y3n l' id' with h|⟨h1,h2,h3⟩
   ·rw [h,ykr]
    simp
   ·have hw:Go.IntKind.wrap .i64 ((o.length:Int)+1)=(o.length:Int)+1:=w64 (by omega) (by omega)
    have hl1:(o++[id']).length=o.length+1:=by simp
    rw [ydC _ _ _ h1,am (by omega),af (by omega),af h1,af h2,hw,hag (l',(yD l' (Yk l' id')).2,(l'.length:Int)+1,(o.length:Int)+1,o++[id']) ⟨rfl,rfl,by show _=((o++[id']).length:Int);rw [hl1];rfl,by show (o++[id']).length≤_;omega⟩ (by show l'.length+1 - (o++[id']).length<l'.length+1 - o.length;omega),h3]
    simp only [hl1]
    rw [show l'.length+1 - (o.length+1)=l'.length - o.length by omega,bo]
    rfl
  ·rw [am hlen,show l'.length+1 - o.length=0 by omega]
   simp [y3B]
end Go.Proofs.YtekbnpmmjciloaaGreat.Pl
namespace Go.Proofs.YtekbnpmmjciloaaGreat.Pl
open Go.Proofs.YtekbnpmmjciloaaGreat.R Go.Proofs.YtekbnpmmjciloaaGreat.XA
theorem YP (x a b:Int):yE (x,a,b)=some (inR x a b):=by
 unfold yE inR nz
 by_cases h:x≥a<;>simp [h]
theorem Yd (x a b:Int):yx (x,a,b)=some (inR x a b):=by
 unfold yx inR nz
 by_cases h:x≥a<;>simp [h]
theorem bi (x y:Int):((x==y)=true)=(x=y):=by simp
end Go.Proofs.YtekbnpmmjciloaaGreat.Pl
namespace Go.Proofs.YtekbnpmmjciloaaGreat.Pl
open Go.Proofs.YtekbnpmmjciloaaGreat.R Go.Proofs.YtekbnpmmjciloaaGreat.XA
def Zm {A:Type} (p:Int→A→Bool):List A→Int→Bool
 |[],_=>false
 |a::l,i=>p i a||Zm p l (i+1)
theorem yfN {A:Type} (p q:Int→A→Bool): ∀ (l:List A) (i:Int),Zm (fun i a=>p i a||q i a) l i=(Zm p l i||Zm q l i)
 |[],_=>rfl
 |a::l,i=>by
  rw [Zm,Zm,Zm,yfN p q l (i+1)]
  cases p i a<;>cases q i a<;>cases Zm p l (i+1)<;>rfl
theorem y9s {A:Type} {p q:Int→A→Bool}: ∀ (l:List A) (i:Int),(∀ j a,i≤j→p j a=q j a)→Zm p l i=Zm q l i
 |[],_,_=>rfl
 |a::l,i,h=>by rw [Zm,Zm,h i a (aH _),y9s l (i+1) (fun j a hj=>h j a (by omega))]
theorem y4V {A:Type} (da:A) {p:Int→A→Bool}: ∀ (l:List A) (i:Int),Zm p l i=false→ ∀ j:Nat,j<l.length→p (i+j) (l.getD j da)=false
 |a::l,i,h,0,_=>by
  rw [Zm,aL] at h
  simpa using h.1
 |a::l,i,h,j+1,hj=>by
  rw [Zm,aL] at h
  have:=y4V da l (i+1) h.2 j (by simpa using hj)
  rw [show i+((j+1:Nat):Int)=i+1+(j:Int) by omega,b9]
  exact this
theorem y7c {A S R:Type} (p:Int→A→Bool) (f:S→A→S) (r:Option R) (k:S→Option R): ∀ (l:List A) (i:Int) (s:S),ydA (fun i s a=>if p i a=true then .error r else .ok (f s a)) k l i s=if Zm p l i=true then r else k (l.foldl f s)
 |[],_,_=>by simp [ydA,Zm]
 |a::l,i,s=>by
  rw [ydA,Zm]
  by_cases h:p i a=true
  ·simp [h]
  ·have hf:p i a=false:=by simpa using h
   simp only [hf,aX,aU,cE,ba]
   exact y7c p f r k l (i+1) (f s a)
theorem y80 {T A S R:Type} {step:(T→Option R)→T→Option R} (mk:Int→S→T) (g:Int→S→A→Except (Option R) S) (k:S→Option R) (da:A) (l:List A) (hl:l.length≤1099511627776) (I:Nat→S→Prop)
  (h: ∀ again i s,0≤i→i<(l.length:Int)→I i.toNat s→(step again (mk i s)=match g i s (l.getD i.toNat da) with
   | .error r=>r
   | .ok s'=>again (mk (i+1) s'))∧ ∀ s',g i s (l.getD i.toNat da)= .ok s'→I (i.toNat+1) s')
  (hd: ∀ again i s,¬ i<(l.length:Int)→step again (mk i s)=k s) (i0:Int) (h00:0≤i0) (s:S) (hs:I i0.toNat s):zI step zY (mk i0 s)=ydA g k (l.drop i0.toNat) i0 s:=by
 have key: ∀ (n:Nat) (i:Int) (s:S),0≤i→I i.toNat s→l.length - i.toNat<n→zI step n (mk i s)=ydA g k (l.drop i.toNat) i s:=by
  intro n
  induction n with
  |zero=>intro i s _ _ hn;omega
  |succ n ih=>
   intro i s h0 hI hn
   rw [zI]
   by_cases hi:i<(l.length:Int)
   ·obtain ⟨e,hI'⟩:=h (zI step n) i s h0 hi hI
    have e1:(i+1).toNat=i.toNat+1:=by omega
    rw [e,Jr da l i h0 hi,ydA]
    cases hg:g i s (l.getD i.toNat da) with
    |error r=>rfl
    |ok s'=>exact ih (i+1) s' (by omega) (by rw [e1];exact hI' s' hg) (by omega)
   ·rw [hd _ i s hi,bO (by omega)]
    rfl
 exact key zY i0 s h00 hs (by rw [y1s];omega)
theorem y7d {T A S R:Type} {step:(T→Option R)→T→Option R} (mk:Int→S→T) (p:Int→A→Bool) (f:S→A→S) (r:Option R) (k:S→Option R) (da:A) (l:List A) (hl:l.length≤1099511627776)
  (h: ∀ again i s,0≤i→i<(l.length:Int)→step again (mk i s)=if p i (l.getD i.toNat da)=true then r else again (mk (i+1) (f s (l.getD i.toNat da))))
  (hd: ∀ again i s,¬ i<(l.length:Int)→step again (mk i s)=k s) (s:S):zI step zY (mk 0 s)=if Zm p l 0=true then r else k (l.foldl f s):=by
 rw [← y7c p f r k l 0 s]
 have:=y80 (step:=step) mk (fun i s a=>if p i a=true then .error r else .ok (f s a)) k da l hl (fun _ _=>True) (fun again i s h0 h1 _=>⟨?_,fun _ _=>trivial⟩) hd 0 (aH _) s trivial
 ·simpa using this
 ·rw [h again i s h0 h1]
  by_cases hp:p i (l.getD i.toNat da)=true
  ·rw [af hp,af hp]
  ·rw [am hp,am hp]
theorem Ye {T A R:Type} {step:(T→Option R)→T→Option R} (mk:Int→T) (p:Int→A→Bool) (r k:Option R) (da:A) (l:List A) (hl:l.length≤1099511627776)
  (h: ∀ again i,0≤i→i<(l.length:Int)→step again (mk i)=if p i (l.getD i.toNat da)=true then r else again (mk (i+1)))
  (hd: ∀ again i,¬ i<(l.length:Int)→step again (mk i)=k):zI step zY (mk 0)=if Zm p l 0=true then r else k:=
 y7d (fun i (_:Unit)=>mk i) p (fun _ _=>()) r (fun _=>k) da l hl (fun again i _ h0 h1=>h again i h0 h1) (fun again i _ hi=>hd again i hi) ()
end Go.Proofs.YtekbnpmmjciloaaGreat.Pl
namespace Go.Proofs.YtekbnpmmjciloaaGreat.Pl
open Go.Proofs.YtekbnpmmjciloaaGreat.R Go.Proofs.YtekbnpmmjciloaaGreat.XA
def y4W (blk:Int) (s:List y8) (a:y8):List y8:=if a.1==blk then s++[a] else s
def y0f (ks:List y8) (blk:Int):List y8:=ks.foldl (y4W blk) []
theorem y5D (blk:Int) (s:List y8) (a:y8):(y4W blk s a).length≤s.length+1:=by
 unfold y4W
 split<;>simp
theorem y81 (blk:Int): ∀ (l s:List y8),(l.foldl (y4W blk) s).length≤s.length+l.length
 |[],s=>by simp
 |c::l,s=>by
  have h:=y81 blk l (y4W blk s c)
  have h2:=y5D blk s c
  simp only [ba,ah]
  omega
theorem ydE: ∀ (t:List y0) (s:List y8),((t.foldl qu s).length:Int)≤s.length+K7 y22 t
 |[],s=>by simp [K7]
 |n::t,s=>by
  have h:=ydE t (qu s n)
  have h1:=QR n
  have h2:=y4U n
  have h3:(qu s n).length=s.length+(zo n).length:=ar
  simp only [ba,Z3]
  omega
theorem ydF (t:List y0):((yW t).length:Int)≤K7 y22 t:=by
 have:=ydE t []
 simpa [yW] using this
structure TOk (t:List y0):Prop where
 len:t.length≤1048576
 nodes: ∀ n∈t,List.length n≤1073741824
 sum:K7 y22 t≤1048576
theorem TOk.keys {t:List y0} (h:TOk t):(yW t).length≤1048576:=by
 have h1:=ydF t
 have h2:=h.sum
 omega
theorem y8B (q:List Int) (t:List y0) (blk:Int) (ht:TOk t):Ky (q,t,blk)=some (y0f (yW t) blk):=by
 unfold Ky y2t nz
 have hk:=ht.keys
 have e:yY (q,t)=some (yW t):=YX q t (by have:=ht.len;omega) ht.nodes ht.sum
 simp only [e,aa]
 generalize yW t=ks at hk
 refine YO (step:=W0 _) (fun (i:Int) (s:List y8)=>(blk,i,s,ks)) (fun s=>some s) yX (y4W blk) ks (by omega) (fun i s=>s.length≤i) ?_ ?_ [] (by simp)
 ·intro again i s h0 h1 hI
  have hw:Go.IntKind.wrap .i64 (i+1)=i+1:=w64 (by omega) (by omega)
  have hs:=y5D blk s (ks.getD i.toNat yX)
  refine ⟨?_,by omega⟩
  have c1:(s.length+1)*40<140737488355328:=by omega
  clear hs
  unfold W0 y4W nz
  obtain ⟨⟨x1,x2,x3,x4,x5⟩,hx⟩: ∃ x,yi ks i=x:=⟨_,rfl⟩
  have hx':ks.getD i.toNat yX=(x1,x2,x3,x4,x5):=hx
  rw [hx']
  simp only [ae,ac,h0,h1,aB,hw,hx,ah,aj,aK,c1]
  by_cases h3:(x1==blk)=true
  ·rw [af h3,af h3]
  ·rw [am h3,am h3]
 ·intro again i s hi
  unfold W0 nz
  simp only [ae,ac,am hi]
theorem y8C (q:List Int) (t:List y0) (blk:Int) (ht:TOk t):vp (q,t,blk)=some (y0f (yW t) blk):=by
 unfold vp y2Q nz
 have hk:=ht.keys
 have e:zz (q,t)=some (yW t):=wq q t (by have:=ht.len;omega) ht.nodes ht.sum
 simp only [e,aa]
 generalize yW t=ks at hk
 refine YO (step:=Wh _) (fun (i:Int) (s:List y8)=>(blk,(ks.length:Int),i,s,ks)) (fun s=>some s) yX (y4W blk) ks (by omega) (fun i s=>s.length≤i) ?_ ?_ [] (by simp)
 ·intro again i s h0 h1 hI
  have hw:Go.IntKind.wrap .i64 (i+1)=i+1:=w64 (by omega) (by omega)
  have hs:=y5D blk s (ks.getD i.toNat yX)
  refine ⟨?_,by omega⟩
  have c1:(s.length+1)*40<140737488355328:=by omega
  clear hs
  unfold Wh y4W nz
  obtain ⟨⟨x1,x2,x3,x4,x5⟩,hx⟩: ∃ x,yi ks i=x:=⟨_,rfl⟩
  have hx':ks.getD i.toNat yX=(x1,x2,x3,x4,x5):=hx
  rw [hx']
  simp only [ae,ac,h0,h1,aB,hw,hx,ah,aj,aK,c1]
  by_cases h3:(x1==blk)=true
  ·rw [af h3,af h3]
  ·rw [am h3,am h3]
 ·intro again i s hi
  unfold Wh nz
  simp only [ae,ac,am hi]
def y4g (path:List Int) (s:Bool×y8) (a:y8):Bool×y8:=if yts path a.2.1=true∧(s.1=false∨s.2.2.1<a.2.1) then (true,a) else s
def y2X (ks:List y8) (path:List Int):Bool×y8:=ks.foldl (y4g path) (false,(0,0,0,0,0))
def ans (r:Bool×y8):Int×Int×Int×Int×Int×Bool:=(r.2.1,r.2.2.1,r.2.2.2.1,r.2.2.2.2.1,r.2.2.2.2.2,r.1)
theorem y66 (q:List Int) (t:List y0) (blk:Int) (path:List Int) (ht:TOk t) (hp:path.length≤1073741824):JH (q,t,blk,path)=some (ans (y2X (y0f (yW t) blk) path)):=by
 unfold JH y2u nz
 have hk:(y0f (yW t) blk).length≤1048576:=by
  have h1:=y81 blk (yW t) []
  have h2:=ht.keys
  unfold y0f
  simp only [aj] at h1
  omega
 simp only [y8B q t blk ht,aa]
 generalize y0f (yW t) blk=ks at hk
 refine (YO (step:=W2 _) (fun (i:Int) (s:Bool×y8)=>(path,s.1,i,0,0,0,0,0,s.2.1,s.2.2.1,s.2.2.2.1,s.2.2.2.2.1,s.2.2.2.2.2,ks)) (fun s=>some (ans s)) yX (y4g path) ks (by omega) (fun _ _=>True) ?_ ?_ (false,(0,0,0,0,0)) trivial)
 ·rintro again i ⟨f,b1,b2,b3,b4,b5⟩ h0 h1 _
  have hw:Go.IntKind.wrap .i64 (i+1)=i+1:=w64 (by omega) (by omega)
  refine ⟨?_,trivial⟩
  unfold W2 y4g nz
  obtain ⟨⟨x1,x2,x3,x4,x5⟩,hx⟩: ∃ x,yi ks i=x:=⟨_,rfl⟩
  have hx':ks.getD i.toNat yX=(x1,x2,x3,x4,x5):=hx
  rw [hx']
  have e:=yfL path x2 hp
  simp only [ae,ac,h0,h1,aB,hw,hx,e,aa]
  cases yts path x2<;>cases f<;>by_cases hb:b2<x2<;>simp [hb]
 ·rintro again i ⟨f,b1,b2,b3,b4,b5⟩ hi
  unfold W2 nz
  simp only [ae,ac,am hi]
  rfl
theorem y3S (q:List Int) (t:List y0) (blk:Int) (path:List Int) (ht:TOk t) (hp:path.length≤1073741824):JM (q,t,blk,path)=some (ans (y2X (y0f (yW t) blk) path)):=by
 unfold JM y2R nz
 have hk:(y0f (yW t) blk).length≤1048576:=by
  have h1:=y81 blk (yW t) []
  have h2:=ht.keys
  unfold y0f
  simp only [aj] at h1
  omega
 simp only [y8C q t blk ht,aa]
 generalize y0f (yW t) blk=ks at hk
 refine (YO (step:=Wi _) (fun (i:Int) (s:Bool×y8)=>(path,s.1,(ks.length:Int),i,0,0,0,0,0,s.2.1,s.2.2.1,s.2.2.2.1,s.2.2.2.2.1,s.2.2.2.2.2,ks)) (fun s=>some (ans s)) yX (y4g path) ks (by omega) (fun _ _=>True) ?_ ?_ (false,(0,0,0,0,0)) trivial)
 ·rintro again i ⟨f,b1,b2,b3,b4,b5⟩ h0 h1 _
  have hw:Go.IntKind.wrap .i64 (i+1)=i+1:=w64 (by omega) (by omega)
  refine ⟨?_,trivial⟩
  unfold Wi y4g nz
  obtain ⟨⟨x1,x2,x3,x4,x5⟩,hx⟩: ∃ x,yi ks i=x:=⟨_,rfl⟩
  have hx':ks.getD i.toNat yX=(x1,x2,x3,x4,x5):=hx
  rw [hx']
  have e:=yfM path x2 hp
  simp only [ae,ac,h0,h1,aB,hw,hx,e,aa]
  cases yts path x2<;>cases f<;>by_cases hb:b2<x2<;>simp [hb]
 ·rintro again i ⟨f,b1,b2,b3,b4,b5⟩ hi
  unfold Wi nz
  simp only [ae,ac,am hi]
  rfl
def yic (t:List y0) (l:List y7) (blk id:Int):Bool×y8:=y2X (y0f (yW t) blk) (y3P l id)
theorem y3o (l:List y7) (id:Int) (hl:l.length≤1048576):(y3P l id).length≤1073741824:=by
 have:=ydD l (l.length+1) (Yk l id)
 unfold y3P
 omega
theorem ydG (q:List Int) (t:List y0) (l:List y7) (blk id:Int) (ht:TOk t) (hl:l.length≤1048576):Qr (q,t,l,blk,id)=some (ans (yic t l blk id)):=by
 unfold Qr nz
 simp only [y3Q l id hl,y66 q t blk _ ht (y3o l id hl),aa]
 rfl
theorem ydH (q:List Int) (t:List y0) (l:List y7) (blk id:Int) (ht:TOk t) (hl:l.length≤1048576):QN (q,t,l,blk,id)=some (ans (yic t l blk id)):=by
 unfold QN nz
 simp only [y3R l id hl,y3S q t blk _ ht (y3o l id hl),aa]
 rfl
def yfO (t:List y0) (l:List y7) (k:y8) (id:Int):Bool:=(yic t l k.1 id).1&&((yic t l k.1 id).2.2.1==k.2.1)
theorem ydI (q:List Int) (t:List y0) (l:List y7) (k1 k2 k3 k4 k5 id:Int) (ht:TOk t) (hl:l.length≤1048576):Qs (q,t,l,k1,k2,k3,k4,k5,id)=some (yfO t l (k1,k2,k3,k4,k5) id):=by
 unfold Qs yfO nz
 simp only [ydG q t l k1 id ht hl,aa,ans]
 cases (yic t l k1 id).1<;>rfl
theorem ydJ (q:List Int) (t:List y0) (l:List y7) (k1 k2 k3 k4 k5 id:Int) (ht:TOk t) (hl:l.length≤1048576):QO (q,t,l,k1,k2,k3,k4,k5,id)=some (yfO t l (k1,k2,k3,k4,k5) id):=by
 unfold QO yfO nz
 simp only [ydH q t l k1 id ht hl,aa,ans]
 cases (yic t l k1 id).1<;>rfl
def y4h (t:List y0) (l:List y7) (k:y8) (v:yf):Bool:=decide (v.2.2.1>k.1)&&yfO t l k v.2.1
def y82 (t:List y0) (l:List y7) (vs:List yf) (k:y8):Bool:=decide (0≤YD (y4h t l k) vs 0)
theorem y5E (q:List Int) (t:List y0) (l:List y7) (cs:List y6) (vs:List yf) (z k1 k2 k3 k4 k5:Int) (ht:TOk t) (hl:l.length≤1048576) (hv:vs.length≤1048576):w4 (q,t,l,cs,vs,z,k1,k2,k3,k4,k5)=some (y82 t l vs (k1,k2,k3,k4,k5)):=by
 unfold w4 y06 nz
 refine (Yr (step:=jx _ _) (fun i=>(i,q,t,l,cs,vs,z,k1,k2,k3,k4,k5)) (y4h t l (k1,k2,k3,k4,k5)) (fun _=>some true) (some false) Yu vs (by omega) ?_ ?_).trans ?_
 ·intro again i h0 h1
  have hw:Go.IntKind.wrap .i64 (i+1)=i+1:=w64 (by omega) (by omega)
  unfold jx y4h nz
  obtain ⟨⟨x1,x2,x3,x4⟩,hx⟩: ∃ x,yd vs i=x:=⟨_,rfl⟩
  have hx':vs.getD i.toNat Yu=(x1,x2,x3,x4):=hx
  rw [hx']
  have e:=ydI q t l k1 k2 k3 k4 k5 x2 ht hl
  simp only [ae,ac,h0,h1,aB,hw,hx,e,aa]
  by_cases hb:x3>k1<;>cases yfO t l (k1,k2,k3,k4,k5) x2<;>simp [hb]
 ·intro again i hi
  unfold jx nz
  simp only [ae,ac,am hi]
 ·unfold y82
  by_cases h:YD (y4h t l (k1,k2,k3,k4,k5)) vs 0<0
  ·rw [af h,aw (by omega)]
  ·rw [am h,ax (by omega)]
theorem y5F (q:List Int) (t:List y0) (l:List y7) (cs:List y6) (vs:List yf) (z k1 k2 k3 k4 k5:Int) (ht:TOk t) (hl:l.length≤1048576) (hv:vs.length≤1048576):w9 (q,t,l,cs,vs,z,k1,k2,k3,k4,k5)=some (y82 t l vs (k1,k2,k3,k4,k5)):=by
 unfold w9 y0b nz
 refine (Yr (step:=jI _ _) (fun i=>(vs,(vs.length:Int),i,q,t,l,cs,vs,z,k1,k2,k3,k4,k5)) (y4h t l (k1,k2,k3,k4,k5)) (fun _=>some true) (some false) Yu vs (by omega) ?_ ?_).trans ?_
 ·intro again i h0 h1
  have hw:Go.IntKind.wrap .i64 (i+1)=i+1:=w64 (by omega) (by omega)
  unfold jI y4h nz
  obtain ⟨⟨x1,x2,x3,x4⟩,hx⟩: ∃ x,yd vs i=x:=⟨_,rfl⟩
  have hx':vs.getD i.toNat Yu=(x1,x2,x3,x4):=hx
  rw [hx']
  have e:=ydJ q t l k1 k2 k3 k4 k5 x2 ht hl
  simp only [ae,ac,h0,h1,aB,hw,hx,e,aa]
  by_cases hb:x3>k1<;>cases yfO t l (k1,k2,k3,k4,k5) x2<;>simp [hb]
 ·intro again i hi
  unfold jI nz
  simp only [ae,ac,am hi]
 ·unfold y82
  by_cases h:YD (y4h t l (k1,k2,k3,k4,k5)) vs 0<0
  ·rw [af h,aw (by omega)]
  ·rw [am h,ax (by omega)]
end Go.Proofs.YtekbnpmmjciloaaGreat.Pl
namespace Go.Proofs.YtekbnpmmjciloaaGreat.Pl
open Go.Proofs.YtekbnpmmjciloaaGreat.R Go.Proofs.YtekbnpmmjciloaaGreat.XA
def WW (k:y8):Bool:=inR k.1 0 15&&(inR k.2.1 1 60&&(inR k.2.2.1 0 2&&(if k.2.2.1=1 then inR k.2.2.2.1 0 23&&inR k.2.2.2.2 0 999 else (k.2.2.2.1==0)&&(k.2.2.2.2==0))))
theorem y4X (a b c d e:Int):K1 (a,b,c,d,e)=some (WW (a,b,c,d,e)):=by
 unfold K1 WW nz
 simp only [YP,aa]
 by_cases hc:c=1
 ·subst hc
  cases inR a 0 15<;>cases inR b 1 60<;>cases inR 1 0 2<;>cases inR d 0 23<;>rfl
 ·have hc':(c==1)=false:=by simpa using hc
  rw [hc',am hc]
  cases inR a 0 15<;>cases inR b 1 60<;>cases inR c 0 2<;>cases (d==0)<;>rfl
theorem y4Y (a b c d e:Int):K4 (a,b,c,d,e)=some (WW (a,b,c,d,e)):=by
 unfold K4 WW nz
 simp only [Yd,aa]
 by_cases hc:c=1
 ·subst hc
  cases inR a 0 15<;>cases inR b 1 60<;>cases inR 1 0 2<;>cases inR d 0 23<;>rfl
 ·have hc':(c !=1)=true:=by simpa using hc
  rw [hc',am hc]
  cases inR a 0 15<;>cases inR b 1 60<;>cases inR c 0 2<;>cases (d==0)<;>rfl
def kU (l:List y8) (i:Int) (a:y8):Bool:=decide (0<i)&& !y1x (l.getD (i - 1).toNat yX) a
def y1V (l:List y8):Bool:= !Zm (fun _ a=> !WW a) l 0&&(!Zm (kU l) l 0&&decide ((l.length:Int)≤60))
theorem yce (l:List y8) (hl:l.length≤1073741824):k9 l=some (!Zm (kU l) l 0):=by
 unfold k9 y1I nz
 have key:=y80 (step:=JT (fun x2=>some x2) (fun x3=>some true)) (fun i (_:Unit)=>(l,i)) (fun i (s:Unit) a=>if (decide (0<i)&& !y1x (l.getD (i - 1).toNat yX) a)=true∨i=0 then .error (some false) else .ok s) (fun _=>some true) yX l (by omega) (fun i _=>1≤i) ?_ ?_ 1 (by omega) () (by decide)
 ·rw [key]
  have h1:Zm (kU l) l 0=Zm (kU l) (l.drop 1) 1:=by
   cases l with
   |nil=>rfl
   |cons a l=>simp [Zm,kU]
  rw [h1]
  have h2:=y7c (fun i a=>decide ((decide (0<i)&& !y1x (l.getD (i - 1).toNat yX) a)=true∨i=0)) (fun (s:Unit) _=>s) (some false) (fun _=>some true) (l.drop 1) 1 ()
  simp only [ac] at h2
  rw [show (1:Int).toNat=1 from rfl,h2]
  have h3:Zm (fun i a=>decide ((decide (0<i)&& !y1x (l.getD (i - 1).toNat yX) a)=true∨i=0)) (l.drop 1) 1=Zm (kU l) (l.drop 1) 1:=y9s _ _ fun j a hj=>by
   unfold kU
   have: ¬ j=0:=by omega
   simp [this]
  rw [h3]
  cases Zm (kU l) (l.drop 1) 1<;>rfl
 ·intro again i s h0 h1 hI
  have hi:1≤i:=by
   have:(1:Nat)≤i.toNat:=hI
   omega
  have hw:Go.IntKind.wrap .i64 (i+1)=i+1:=w64 (by omega) (by omega)
  have hm:Go.IntKind.wrap .i64 (i - 1)=i - 1:=w64 (by omega) (by omega)
  refine ⟨?_,fun _ _=>by omega⟩
  unfold JT nz
  obtain ⟨⟨x1,x2,x3,x4,x5⟩,hx⟩: ∃ x,yi l i=x:=⟨_,rfl⟩
  have hx':l.getD i.toNat yX=(x1,x2,x3,x4,x5):=hx
  obtain ⟨⟨y1,y2,y3,y4,y5⟩,hy⟩: ∃ y,yi l (i - 1)=y:=⟨_,rfl⟩
  have hy':l.getD (i - 1).toNat yX=(y1,y2,y3,y4,y5):=hy
  rw [hx',hy']
  have h3:0≤i - 1:=by omega
  have h4:i - 1<(l.length:Int):=by omega
  have h5:0<i:=by omega
  have h6: ¬ i=0:=by omega
  simp only [ae,ac,h0,h1,aB,hw,hm,hx,hy,h3,h4,h5,h6,y2U,aa,decide_true,br,or_false]
  cases y1x (y1,y2,y3,y4,y5) (x1,x2,x3,x4,x5)<;>rfl
 ·intro again i s hi
  unfold JT nz
  simp only [ae,ac,am hi]
theorem ycf (l:List y8) (hl:l.length≤1073741824):VQ l=some (y1V l):=by
 unfold VQ y3H y1V nz
 refine (Ye (step:=ka _ _) (fun i=>(l,i)) (fun _ a=> !WW a) (some false) (some (!Zm (kU l) l 0&&decide ((l.length:Int)≤60))) yX l (by omega) ?_ ?_).trans ?_
 ·intro again i h0 h1
  have hw:Go.IntKind.wrap .i64 (i+1)=i+1:=w64 (by omega) (by omega)
  unfold ka nz
  obtain ⟨⟨x1,x2,x3,x4,x5⟩,hx⟩: ∃ x,yi l i=x:=⟨_,rfl⟩
  have hx':l.getD i.toNat yX=(x1,x2,x3,x4,x5):=hx
  rw [hx']
  simp only [ae,ac,h0,h1,aB,hw,hx,y4X,aa]
 ·intro again i hi
  unfold ka nz
  simp only [ae,ac,am hi,yce l hl,aa]
  cases Zm (kU l) l 0<;>rfl
 ·cases Zm (fun _ a=> !WW a) l 0<;>rfl
theorem ycg (l:List y8) (hl:l.length≤1073741824):VY l=some (y1V l):=by
 unfold VY y3M y1V nz
 refine (Ye (step:=km _ _) (fun i=>(l,l,(l.length:Int),i)) (fun i a=> !WW a||kU l i a) (some false) (some (decide ((l.length:Int)≤60))) yX l (by omega) ?_ ?_).trans ?_
 ·intro again i h0 h1
  have hw:Go.IntKind.wrap .i64 (i+1)=i+1:=w64 (by omega) (by omega)
  have hm:Go.IntKind.wrap .i64 (i - 1)=i - 1:=w64 (by omega) (by omega)
  unfold km kU nz
  obtain ⟨⟨x1,x2,x3,x4,x5⟩,hx⟩: ∃ x,yi l i=x:=⟨_,rfl⟩
  have hx':l.getD i.toNat yX=(x1,x2,x3,x4,x5):=hx
  obtain ⟨⟨y1,y2,y3,y4,y5⟩,hy⟩: ∃ y,yi l (i - 1)=y:=⟨_,rfl⟩
  have hy':l.getD (i - 1).toNat yX=(y1,y2,y3,y4,y5):=hy
  rw [hx',hy']
  simp only [ae,ac,h0,h1,aB,hw,hm,hx,hy,y4Y,y2V,aa]
  cases WW (x1,x2,x3,x4,x5)
  ·rfl
  ·by_cases h5:0<i
   ·have h3:0≤i - 1:=by omega
    have h4:i - 1<(l.length:Int):=by omega
    simp only [gt_iff_lt,h5,h3,h4,aB,decide_true]
    cases y1x (y1,y2,y3,y4,y5) (x1,x2,x3,x4,x5)<;>rfl
   ·simp [h5]
 ·intro again i hi
  unfold km nz
  simp only [ae,ac,am hi]
 ·rw [yfN]
  cases Zm (fun _ a=> !WW a) l 0<;>cases Zm (kU l) l 0<;>rfl
def y4Z (_:Int) (a:ya):Bool:= !y1V a||((List.length a:Int)==0)
def y3T (s:Int) (a:ya):Int:=Go.IntKind.wrap .i64 (s+(List.length a:Int))
def Zu (n:List ya):Bool:= !Zm y4Z n 0&&(decide ((n.length:Int)≤3)&&decide (n.foldl y3T 0≤8))
theorem ych (n:List ya) (hn:n.length≤1073741824):kb n=some (n.foldl y3T 0):=by
 unfold kb y1J nz
 refine YO (step:=JU _) (fun (i s:Int)=>(s,i,n)) (fun s=>some s) zk y3T n (by omega) (fun _ _=>True) ?_ ?_ 0 trivial
 ·intro again i s h0 h1 _
  have hw:Go.IntKind.wrap .i64 (i+1)=i+1:=w64 (by omega) (by omega)
  refine ⟨?_,trivial⟩
  unfold JU nz
  simp only [ae,ac,h0,h1,aB,hw]
  rfl
 ·intro again i s hi
  unfold JU nz
  simp only [ae,ac,am hi]
theorem y0v (n:List ya) (hn:n.length≤1073741824) (hm: ∀ s∈n,List.length s≤1073741824):zL n=some (Zu n):=by
 unfold zL y2i Zu nz
 refine (Ye (step:=wP _ _) (fun i=>(i,n)) y4Z (some false) (some (decide ((n.length:Int)≤3)&&decide (n.foldl y3T 0≤8))) zk n (by omega) ?_ ?_).trans ?_
 ·intro again i h0 h1
  have hw:Go.IntKind.wrap .i64 (i+1)=i+1:=w64 (by omega) (by omega)
  have e:=ycf (yu n i) (hm _ (z5 zk n i h0 h1))
  unfold wP y4Z nz
  have hx:n.getD i.toNat zk=yu n i:=rfl
  rw [hx]
  simp only [ae,ac,h0,h1,aB,hw,e,aa]
  cases y1V (yu n i)
  ·rfl
  ·rfl
 ·intro again i hi
  unfold wP nz
  simp only [ae,ac,am hi,ych n hn,aa]
  by_cases h3:(n.length:Int)≤3<;>simp [h3]
 ·cases Zm y4Z n 0<;>rfl
theorem y0w (n:List ya) (hn:n.length≤1073741824) (hm: ∀ s∈n,List.length s≤1073741824):Y9 n=some (Zu n):=by
 unfold Y9 y2E Zu nz
 refine (y7d (step:=W7 _ _) (fun (i s:Int)=>(s,n,(n.length:Int),i,n)) y4Z y3T (some false) (fun s=>some (decide ((n.length:Int)≤3)&&decide (s≤8))) zk n (by omega) ?_ ?_ 0).trans ?_
 ·intro again i s h0 h1
  have hw:Go.IntKind.wrap .i64 (i+1)=i+1:=w64 (by omega) (by omega)
  have e:=ycg (yu n i) (hm _ (z5 zk n i h0 h1))
  unfold W7 y4Z y3T nz
  have hx:n.getD i.toNat zk=yu n i:=rfl
  rw [hx]
  simp only [ae,ac,h0,h1,aB,hw,e,aa]
  cases y1V (yu n i)
  ·rfl
  ·rfl
 ·intro again i s hi
  unfold W7 nz
  simp only [ae,ac,am hi]
  by_cases h3:(n.length:Int)≤3<;>simp [h3]
 ·cases Zm y4Z n 0<;>rfl
end Go.Proofs.YtekbnpmmjciloaaGreat.Pl
namespace Go.Proofs.YtekbnpmmjciloaaGreat.Pl
open Go.Proofs.YtekbnpmmjciloaaGreat.R Go.Proofs.YtekbnpmmjciloaaGreat.XA
def small (is:List y9) (ns:List y0) (ags:List y7) (cs:List y6) (vs:List yf):Prop:=
 is.length≤1048576∧ns.length≤1048576∧K7 y22 ns≤1048576∧ags.length≤1048576∧cs.length≤1048576∧vs.length≤1048576
theorem K9 {ns:List y0} (h:K7 y22 ns≤1048576) {n:List ya} (hn:n∈ns):n.length≤1048576∧ ∀ s∈n,List.length s≤1048576:=by
 have h1:=(y3k qa hn).1
 have h2:=kT Vu n
 have h3:y22 n=(List.length n:Int)+K7 QX n:=rfl
 refine ⟨by omega,fun s hs=> ?_⟩
 have h4:=(y3k Vu hs).1
 have h5:QX s=(List.length s:Int):=rfl
 omega
end Go.Proofs.YtekbnpmmjciloaaGreat.Pl
namespace Go.Proofs.YtekbnpmmjciloaaGreat.Pl
open Go.Proofs.YtekbnpmmjciloaaGreat.R Go.Proofs.YtekbnpmmjciloaaGreat.XA
def yfP (a:y8):Int:=Go.IntKind.wrap .i64 (Go.IntKind.wrap .i64 ((64:Int)*a.1)+a.2.1)
def ytt (q:List Int) (i:Int) (_:Int) (a:y8):Bool:=decide (yfP a<q.getD i.toNat 0)||(decide (i+1<(q.length:Int))&&decide (yfP a≥q.getD (i+1).toNat 0))
theorem TOk.node {t:List y0} (h:TOk t) {n:List ya} (hn:n∈t):n.length≤1048576∧ ∀ s∈n,List.length s≤1048576:=K9 h.sum hn
theorem TOk.sumK {t:List y0} (h:TOk t) {n:List ya} (hn:n∈t):K7 QX n≤1048576:=by
 have h1:=(y3k qa hn).1
 have h2:=y4U n
 have h3:=h.sum
 omega
theorem yid {R:Type} (k0:(Int×Bool×Int×List y9×List y0×List ya)→Option R) (k1:(Int×Int×List y9×List y0×List ya)→Option R) (i k:Int) (q:List Int) (t:List y0) (n:List ya) (hk0:0≤k) (hk:k<(n.length:Int)) (hi0:0≤i) (hi:i<(q.length:Int)) (hq:q.length≤1048576) (hs:List.length (yu n k)≤1048576):
  Qc k0 k1 (i,k,0,q,t,n)=if Zm (ytt q i) (yu n k) 0=true then k0 (i,false,k,q,t,n) else k1 (i,k,q,t,n):=by
 unfold Qc
 refine Ye (step:=wQ k0 k1) (fun j=>(i,k,j,q,t,n)) (ytt q i) _ _ yX (yu n k) (by omega) ?_ ?_
 ·intro again j h0 h1
  have hw:Go.IntKind.wrap .i64 (j+1)=j+1:=w64 (by omega) (by omega)
  have hwi:Go.IntKind.wrap .i64 (i+1)=i+1:=w64 (by omega) (by omega)
  unfold wQ ytt WA Wz yfP nz
  obtain ⟨⟨x1,x2,x3,x4,x5⟩,hx⟩: ∃ x,yi (yu n k) j=x:=⟨_,rfl⟩
  have hx':(yu n k).getD j.toNat yX=(x1,x2,x3,x4,x5):=hx
  have e1:q.getD i.toNat 0=zB q i:=rfl
  have e2:q.getD (i+1).toNat 0=zB q (i+1):=rfl
  rw [hx',e1,e2]
  have hi1:0≤i+1:=by omega
  simp only [ae,ac,h0,h1,hk0,hk,hi0,hi,hi1,aB,hw,hwi,hx,aa]
  by_cases h2:Go.IntKind.wrap .i64 (Go.IntKind.wrap .i64 ((64:Int)*x1)+x2)<zB q i
  ·simp [h2]
  ·by_cases h3:i+1<(q.length:Int)
   ·simp [h2,h3]
   ·simp [h2,h3]
 ·intro again j hj
  unfold wQ nz
  simp only [ae,ac,hk0,hk,aB,am hj]
def yks (q:List Int) (i:Int) (_:Int) (s:ya):Bool:=Zm (ytt q i) s 0
def ykt (n:y0):Bool:=((zo n).length:Int)==0
def yfQ (q:List Int) (i:Int) (n:y0):Bool:=Zu n&&(!(decide (0<i)&&ykt n)&& !Zm (yks q i) n 0)
theorem y8D (q:List Int) (t:List y0) (i:Int) (ht:TOk t) (hi0:0≤i) (hi:i<(t.length:Int)) (hq:q.length=t.length):Kn (q,t,i)=some (yfQ q i (yk t i)):=by
 have hmem:yk t i∈t:=z5 yH t i hi0 hi
 obtain ⟨hn,hs⟩:=ht.node hmem
 have hlen:=ht.len
 have hq1:i<(q.length:Int):=by omega
 have hq2:q.length≤1048576:=by omega
 have e1:=y0v (yk t i) (by omega) (fun s hh=>by have:=hs s hh;omega)
 have e2:yI (yk t i)=some (zo (yk t i)):=jj _ (by omega) (ht.sumK hmem)
 unfold Kn yfQ ykt nz
 simp only [hi0,hi,aB,e1,aa]
 generalize yk t i=n at*
 cases Zu n
 ·rfl
 ·have key:Qe (fun x10=>some x10) (fun x11=>some true) (i,0,q,t,n)=some (!Zm (yks q i) n 0):=by
   unfold Qe
   refine (Ye (step:=wR _ _) (fun k=>(i,k,q,t,n)) (yks q i) (some false) (some true) zk n (by omega) ?_ ?_).trans ?_
   ·intro again k h0 h1
    have hw:Go.IntKind.wrap .i64 (k+1)=k+1:=w64 (by omega) (by omega)
    have hsk:List.length (yu n k)≤1048576:=hs _ (z5 zk n k h0 h1)
    unfold wR yks nz
    have hx:n.getD k.toNat zk=yu n k:=rfl
    rw [hx]
    simp only [ae,ac,h1,aB,yid _ _ i k q t n h0 h1 hi0 hq1 hq2 hsk,hw]
   ·intro again k hk
    unfold wR nz
    simp only [ae,ac,am hk]
   ·cases Zm (yks q i) n 0<;>rfl
  simp only [key,e2,aa,ay,ag,gt_iff_lt]
  by_cases h0:0<i
  ·simp only [h0,decide_true,ai,br]
   cases (((zo n).length:Int)==0)<;>rfl
  ·simp only [h0,decide_false,ag,co]
   rfl
theorem yie {R:Type} (k0:(Int×Bool×List ya×Int×Int×List y9×List y0)→Option R) (k1:(Int×List ya×Int×Int×List y9×List y0)→Option R) (i k m:Int) (q:List Int) (t:List y0) (n:List ya) (s:List y8) (hi0:0≤i) (hi:i<(q.length:Int)) (hq:q.length≤1048576) (hs:s.length≤1048576):
  Va k0 k1 (i,n,m,k,s,(s.length:Int),0,q,t)=if Zm (ytt q i) s 0=true then k0 (i,false,n,m,k,q,t) else k1 (i,n,m,k,q,t):=by
 unfold Va
 refine Ye (step:=J8 k0 k1) (fun j=>(i,n,m,k,s,(s.length:Int),j,q,t)) (ytt q i) _ _ yX s (by omega) ?_ ?_
 ·intro again j h0 h1
  have hw:Go.IntKind.wrap .i64 (j+1)=j+1:=w64 (by omega) (by omega)
  have hwi:Go.IntKind.wrap .i64 (i+1)=i+1:=w64 (by omega) (by omega)
  unfold J8 ytt jA yfP nz
  obtain ⟨⟨x1,x2,x3,x4,x5⟩,hx⟩: ∃ x,yi s j=x:=⟨_,rfl⟩
  have hx':s.getD j.toNat yX=(x1,x2,x3,x4,x5):=hx
  have e1:q.getD i.toNat 0=zB q i:=rfl
  have e2:q.getD (i+1).toNat 0=zB q (i+1):=rfl
  rw [hx',e1,e2]
  have hi1:0≤i+1:=by omega
  simp only [ae,ac,h0,h1,hi0,hi,hi1,aB,hw,hwi,hx,aa]
  by_cases h2:Go.IntKind.wrap .i64 (Go.IntKind.wrap .i64 ((64:Int)*x1)+x2)<zB q i
  ·simp [h2]
  ·by_cases h3:i+1<(q.length:Int)
   ·simp [h2,h3]
   ·simp [h2,h3]
 ·intro again j hj
  unfold J8 nz
  simp only [ae,ac,am hj]
theorem y6y (q:List Int) (t:List y0) (i:Int) (ht:TOk t) (hi0:0≤i) (hi:i<(t.length:Int)) (hq:q.length=t.length):W8 (q,t,i)=some (!Zm (yks q i) (yk t i) 0):=by
 have hmem:yk t i∈t:=z5 yH t i hi0 hi
 obtain ⟨hn,hs⟩:=ht.node hmem
 have hlen:=ht.len
 have hq1:i<(q.length:Int):=by omega
 have hq2:q.length≤1048576:=by omega
 unfold W8 y0S nz
 simp only [hi0,hi,aB]
 generalize yk t i=n at*
 refine (Ye (step:=J9 _ _) (fun k=>(i,n,(n.length:Int),k,q,t)) (yks q i) (some false) (some true) zk n (by omega) ?_ ?_).trans ?_
 ·intro again k h0 h1
  have hw:Go.IntKind.wrap .i64 (k+1)=k+1:=w64 (by omega) (by omega)
  have hsk:List.length (yu n k)≤1048576:=hs _ (z5 zk n k h0 h1)
  unfold J9 yks nz
  have hx:n.getD k.toNat zk=yu n k:=rfl
  rw [hx]
  simp only [ae,ac,h0,h1,aB,yie _ _ i k (n.length:Int) q t n _ hi0 hq1 hq2 hsk,hw]
 ·intro again k hk
  unfold J9 nz
  simp only [ae,ac,am hk]
 ·cases Zm (yks q i) n 0<;>rfl
def ytu (q:List Int) (i:Int):Bool:=decide (0<i)&&decide (q.getD (i - 1).toNat 0≥q.getD i.toNat 0)
def y2Y (q:List Int) (i:Int) (n:y0):Bool:=ytu q i|| !yfQ q i n
def y83 (s:Int) (n:y0):Int:=Go.IntKind.wrap .i64 (s+((zo n).length:Int))
def ZG (q:List Int) (t:List y0):Bool:=
 inR (t.length:Int) 1 20&&(decide (q.length=t.length)&&((q.getD 0 0==0)&&(!Zm (y2Y q) t 0&&decide (((yW t).length:Int)≤60))))
theorem yku: ∀ (t:List y0) (s:List y8),(s.length:Int)+K7 y22 t≤1048576→t.foldl y83 (s.length:Int)=((t.foldl qu s).length:Int)
 |[],_,_=>rfl
 |n::t,s,h=>by
  rw [Z3] at h
  have h1:=QR n
  have h2:=y4U n
  have h3:=kT qa t
  have h4:(qu s n).length=s.length+(zo n).length:=ar
  rw [ba,ba,show y83 (s.length:Int) n=((qu s n).length:Int) by
   unfold y83
   rw [h4,w64 (by omega) (by omega)]
   omega]
  exact yku t (qu s n) (by rw [h4];omega)
theorem y0x (q:List Int) (t:List y0) (ht:TOk t):Zc (q,t)=some (ZG q t):=by
 have hlen:=ht.len
 unfold Zc ZG nz
 simp only [YP,aa]
 cases h1:inR (t.length:Int) 1 20
 ·rfl
 by_cases hq:q.length=t.length
 ·have hq':((q.length:Int) !=(t.length:Int))=false:=by simp [hq]
  have hpos:0<(q.length:Int):=by
   have:=(zX.1 h1).1
   omega
  have hd:decide (q.length=t.length)=true:=by simp [hq]
  simp only [hq',hd,ay,ag,ai,aa,br]
  rw [af (aH _),af (by omega)]
  have e0:zB q 0=q.getD 0 0:=rfl
  rw [e0]
  try simp only [aa]
  by_cases hz:q.getD 0 0=0
  ·have hz1:(q.getD 0 0 !=0)=false:=by rw [hz];rfl
   have hz2:(q.getD 0 0==0)=true:=by rw [hz];rfl
   rw [hz1,hz2]
   simp only [ag,br]
   unfold y2j
   refine (Ye (step:=wS _ _) (fun i=>(i,q,t)) (y2Y q) (some false) (some (decide (((yW t).length:Int)≤60))) yH t (by omega) ?_ ?_).trans ?_
   ·intro again i h0 h1
    have hw:Go.IntKind.wrap .i64 (i+1)=i+1:=w64 (by omega) (by omega)
    have hm:Go.IntKind.wrap .i64 (i - 1)=i - 1:=w64 (by omega) (by omega)
    have e:=y8D q t i ht h0 h1 hq
    unfold wS y2Y ytu nz
    have hx:t.getD i.toNat yH=yk t i:=rfl
    have e1:q.getD i.toNat 0=zB q i:=rfl
    have e2:q.getD (i - 1).toNat 0=zB q (i - 1):=rfl
    rw [hx,e1,e2]
    simp only [ae,ac,h0,h1,aB,hw,hm,e,gt_iff_lt]
    by_cases h5:0<i
    ·rw [af h5,af (by omega),af (by omega),af (by omega)]
     simp only [h5,decide_true,aa,br]
     cases decide (zB q (i - 1)≥zB q i)<;>cases yfQ q i (yk t i)<;>rfl
    ·rw [am h5]
     simp only [h5,decide_false,aa,co]
     cases yfQ q i (yk t i)<;>rfl
   ·intro again i hi
    have e:yY (q,t)=some (yW t):=YX q t (by omega) ht.nodes ht.sum
    unfold wS nz
    simp only [ae,ac,am hi,e,aa]
   ·cases Zm (y2Y q) t 0<;>rfl
  ·have hz1:(q.getD 0 0 !=0)=true:=by simpa using hz
   have hz2:(q.getD 0 0==0)=false:=by simpa using hz
   rw [hz1,hz2]
   rfl
 ·have hq':((q.length:Int) !=(t.length:Int))=true:=by
   simp only [bne_iff_ne,ne_eq]
   omega
  have hd:decide (q.length=t.length)=false:=by simp [hq]
  simp only [hq',hd,ay,ag,ai,aa,co,Bool.and_false]
theorem y0y (q:List Int) (t:List y0) (ht:TOk t):Zd (q,t)=some (ZG q t):=by
 have hlen:=ht.len
 unfold Zd ZG nz
 simp only [Yd,aa]
 cases h1:inR (t.length:Int) 1 20
 ·rfl
 by_cases hq:q.length=t.length
 ·have hq':((q.length:Int) !=(t.length:Int))=false:=by simp [hq]
  have hpos:0<(q.length:Int):=by
   have:=(zX.1 h1).1
   omega
  have hd:decide (q.length=t.length)=true:=by simp [hq]
  simp only [hq',hd,ay,ag,ai,aa,br]
  rw [af (aH _),af (by omega)]
  have e0:zB q 0=q.getD 0 0:=rfl
  rw [e0]
  try simp only [aa]
  by_cases hz:q.getD 0 0=0
  ·have hz1:(q.getD 0 0 !=0)=false:=by rw [hz];rfl
   have hz2:(q.getD 0 0==0)=true:=by rw [hz];rfl
   rw [hz1,hz2]
   simp only [ag,br]
   unfold y2F
   refine (y7d (step:=Wa _ _) (fun (i s:Int)=>(s,t,(t.length:Int),i,q,t)) (y2Y q) y83 (some false) (fun s=>some (decide (s≤60))) yH t (by omega) ?_ ?_ 0).trans ?_
   ·intro again i s h0 h1
    have hmem:yk t i∈t:=z5 yH t i h0 h1
    obtain ⟨hn,hss⟩:=ht.node hmem
    have hw:Go.IntKind.wrap .i64 (i+1)=i+1:=w64 (by omega) (by omega)
    have hm:Go.IntKind.wrap .i64 (i - 1)=i - 1:=w64 (by omega) (by omega)
    have e3:=y0w (yk t i) (by omega) (fun s hh=>by have:=hss s hh;omega)
    have e4:=y6y q t i ht h0 h1 hq
    have e5:yZ (yk t i)=some (zo (yk t i)):=wo _ (by omega) (ht.sumK hmem)
    unfold Wa y2Y ytu yfQ ykt y83 nz
    have hx:t.getD i.toNat yH=yk t i:=rfl
    have e1:q.getD i.toNat 0=zB q i:=rfl
    have e2:q.getD (i - 1).toNat 0=zB q (i - 1):=rfl
    rw [hx,e1,e2]
    simp only [ae,ac,h0,h1,aB,hw,hm,e3,e4,e5,gt_iff_lt,aa]
    by_cases h5:0<i
    ·rw [af h5,af (by omega),af (by omega),af (by omega)]
     simp only [h5,decide_true,aa,br,aB]
     cases decide (zB q (i - 1)≥zB q i)<;>cases Zu (yk t i)<;>cases Zm (yks q i) (yk t i) 0<;>cases (((zo (yk t i)).length:Int)==0)<;>rfl
    ·rw [am h5]
     simp only [h5,decide_false,aa,co,aU]
     cases Zu (yk t i)<;>cases Zm (yks q i) (yk t i) 0<;>rfl
   ·intro again i s hi
    unfold Wa nz
    simp only [ae,ac,am hi]
   ·have:=yku t [] (by have:=ht.sum;simpa using this)
    simp only [aj] at this
    rw [show ((0:Nat):Int)=0 from rfl] at this
    rw [this]
    unfold yW
    cases Zm (y2Y q) t 0<;>rfl
  ·have hz1:(q.getD 0 0 !=0)=true:=by simpa using hz
   have hz2:(q.getD 0 0==0)=false:=by simpa using hz
   rw [hz1,hz2]
   rfl
 ·have hq':((q.length:Int) !=(t.length:Int))=true:=by
   simp only [bne_iff_ne,ne_eq]
   omega
  have hd:decide (q.length=t.length)=false:=by simp [hq]
  simp only [hq',hd,ay,ag,ai,aa,co,Bool.and_false]
end Go.Proofs.YtekbnpmmjciloaaGreat.Pl
namespace Go.Proofs.YtekbnpmmjciloaaGreat.Pl
open Go.Proofs.YtekbnpmmjciloaaGreat.R Go.Proofs.YtekbnpmmjciloaaGreat.XA
def isW (n:Int):Bool:=inR n 0 65535
theorem qb (x:Int):zC x=some (isW x):=by unfold zC nz;rw [YP];rfl
theorem y2Z (x:Int):Ze x=some (isW x):=by unfold Ze nz;rw [Yd];rfl
def yci (c:Int):Bool:=inR c 97 122||inR c 48 57
def y1z (l:List UInt8):Bool:=l.all fun c=>yci (c.toNat:Int)
def Z4 (s:ByteArray):Bool:=y1z s.data.toList&&inR s.size 1 6
theorem yh6 (c:UInt8):Go.IntKind.wrap .i64 (c.toNat:Int)=c.toNat:=by
 have:=c.toNat_lt
 exact w64 (by omega) (by omega)
theorem yn2 (s:ByteArray) (i:Nat) (h:i<s.size):ByteArray.get s i h=s.data.toList[i]'(by rw [aN];exact h):=by
 rw [Array.getElem_toList]
 rfl
theorem ydK (s:ByteArray) (i:Nat) (h:i<s.size):s.data.toList.drop i=ByteArray.get s i h::s.data.toList.drop (i+1):=by
 rw [yn2,← bP]
theorem Y5 (s:ByteArray) (hs:s.size≤maxLen):zS s=some (Z4 s):=by
 have hm:(s.size:Int)≤9223372036854775807:=by simp only [maxLen] at hs;omega
 unfold zS y2h nz
 rw [Z2 (fun t:ByteArray×Int=>t.1.size - t.2.toNat) (fun t=>t.1=s∧0≤t.2∧t.2≤s.size) (fun t=>if y1z (t.1.data.toList.drop t.2.toNat) then some (inR s.size 1 6) else some false) ?_ (s,0) ⟨rfl,by simp,by simp⟩ (by simp only [maxLen] at hs;simp;omega)]
 ·unfold Z4
  cases h:y1z s.data.toList<;>simp [h]
 ·rintro again ⟨s',i⟩ ⟨rfl,h0,h1⟩ hag
  simp only at h0 h1 hs hm ⊢
  unfold Q8 nz
  simp only [ae,ac]
  by_cases hi:i<(s'.size:Int)
  ·have hn:i.toNat<s'.size:=by omega
   rw [af hi,af h0,dif_pos hn]
   simp only [YP,aa,af h0,dif_pos hn,yh6]
   rw [ydK s' i.toNat hn]
   have hw:Go.IntKind.wrap .i64 (i+1)=i+1:=w64 (by omega) (by omega)
   have e1:(i+1).toNat=i.toNat+1:=by omega
   have hag':=hag (s',i+1) ⟨rfl,by simp only;omega,by simp only;omega⟩ (by simp only;omega)
   simp only [y1z,List.all_cons,yci] at hag' ⊢
   rw [hw,hag',e1]
   obtain ⟨c,hc⟩: ∃ c,ByteArray.get s' i.toNat hn=c:=⟨_,rfl⟩
   simp only [hc]
   cases inR (c.toNat:Int) 97 122<;>cases inR (c.toNat:Int) 48 57<;>simp
  ·rw [am hi,bO (by rw [aN];show s'.size≤_;omega)]
   simp [y1z,YP]
theorem zH (s:ByteArray) (hs:s.size≤maxLen):zr s=some (Z4 s):=by
 have hm:(s.size:Int)≤9223372036854775807:=by simp only [maxLen] at hs;omega
 unfold zr y2H nz
 rw [Z2 (fun t:ByteArray×Int=>t.1.size - t.2.toNat) (fun t=>t.1=s∧0≤t.2∧t.2≤s.size) (fun t=>if y1z (t.1.data.toList.drop t.2.toNat) then some (inR s.size 1 6) else some false) ?_ (s,0) ⟨rfl,by simp,by simp⟩ (by simp only [maxLen] at hs;simp;omega)]
 ·unfold Z4
  cases h:y1z s.data.toList<;>simp [h]
 ·rintro again ⟨s',i⟩ ⟨rfl,h0,h1⟩ hag
  simp only at h0 h1 hs hm ⊢
  unfold QB nz
  simp only [ae,ac]
  by_cases hi:i<(s'.size:Int)
  ·have hn:i.toNat<s'.size:=by omega
   rw [af hi,af h0,dif_pos hn]
   simp only [Yd,aa,af h0,dif_pos hn,yh6]
   rw [ydK s' i.toNat hn]
   have hw:Go.IntKind.wrap .i64 (i+1)=i+1:=w64 (by omega) (by omega)
   have e1:(i+1).toNat=i.toNat+1:=by omega
   have hag':=hag (s',i+1) ⟨rfl,by simp only;omega,by simp only;omega⟩ (by simp only;omega)
   simp only [y1z,List.all_cons,yci] at hag' ⊢
   rw [hw,hag',e1]
   obtain ⟨c,hc⟩: ∃ c,ByteArray.get s' i.toNat hn=c:=⟨_,rfl⟩
   simp only [hc]
   cases inR (c.toNat:Int) 97 122<;>cases inR (c.toNat:Int) 48 57<;>simp
  ·rw [am hi,bO (by rw [aN];show s'.size≤_;omega)]
   simp [y1z,Yd]
end Go.Proofs.YtekbnpmmjciloaaGreat.Pl
namespace Go.Proofs.YtekbnpmmjciloaaGreat.Pl
open Go.Proofs.YtekbnpmmjciloaaGreat.R Go.Proofs.YtekbnpmmjciloaaGreat.XA
def ykv (l:List y7) (i:Int):List y7:=List.drop (Int.toNat (0:Int)) (List.take (Int.toNat i) l)
def ydL (l:List y7) (i:Int) (a:y7):Bool:= !inR a.1 1 60||((decide (0<i)&&decide ((l.getD (i - 1).toNat YS).1≥a.1))||(a.2 !=0&&decide (Yk (ykv l i) a.2<0)))
def wD (l:List y7):Bool:= !Zm (ydL l) l 0&&decide ((l.length:Int)≤16)
theorem yh7 (l:List y7) (i:Int):(ykv l i).length≤l.length:=by
 unfold ykv
 simp only [aC,ak]
 omega
theorem kE (l:List y7) (hl:l.length≤1048576):ZD l=some (wD l):=by
 unfold ZD y2k wD nz
 refine (Ye (step:=wT _ _) (fun i=>(l,i)) (ydL l) (some false) (some (decide ((l.length:Int)≤16))) YS l (by omega) ?_ ?_).trans ?_
 ·intro again i h0 h1
  have hw:Go.IntKind.wrap .i64 (i+1)=i+1:=w64 (by omega) (by omega)
  have hm:Go.IntKind.wrap .i64 (i - 1)=i - 1:=w64 (by omega) (by omega)
  unfold wT ydL nz
  obtain ⟨⟨x1,x2⟩,hx⟩: ∃ x,yD l i=x:=⟨_,rfl⟩
  have hx':l.getD i.toNat YS=(x1,x2):=hx
  have hy:l.getD (i - 1).toNat YS=yD l (i - 1):=rfl
  have e:zZ (List.drop (Int.toNat (0:Int)) (List.take (Int.toNat i) l),x2)=some (Yk (ykv l i) x2):=Zg (ykv l i) x2 (by have:=yh7 l i;omega)
  rw [hx',hy]
  have h2:i≤(l.length:Int):=by omega
  simp only [ae,ac,h0,h1,h2,aB,hw,hm,hx,YP,e,aa,aH,gt_iff_lt]
  cases inR x1 1 60
  ·rfl
  ·by_cases h5:0<i
   ·have h3:0≤i - 1:=by omega
    have h4:i - 1<(l.length:Int):=by omega
    simp only [h5,h3,h4,aB,decide_true]
    cases decide ((yD l (i - 1)).1≥x1)<;>cases (x2 !=0)<;>cases decide (Yk (ykv l i) x2<0)<;>rfl
   ·simp only [h5,aU,decide_false]
    cases (x2 !=0)<;>cases decide (Yk (ykv l i) x2<0)<;>rfl
 ·intro again i hi
  unfold wT nz
  simp only [ae,ac,am hi]
 ·cases Zm (ydL l) l 0<;>rfl
theorem y0z (l:List y7) (hl:l.length≤1048576):jC l=some (wD l):=by
 unfold jC y2G wD nz
 refine (Ye (step:=Wb _ _) (fun i=>(l,l,(l.length:Int),i)) (ydL l) (some false) (some (decide ((l.length:Int)≤16))) YS l (by omega) ?_ ?_).trans ?_
 ·intro again i h0 h1
  have hw:Go.IntKind.wrap .i64 (i+1)=i+1:=w64 (by omega) (by omega)
  have hm:Go.IntKind.wrap .i64 (i - 1)=i - 1:=w64 (by omega) (by omega)
  unfold Wb ydL nz
  obtain ⟨⟨x1,x2⟩,hx⟩: ∃ x,yD l i=x:=⟨_,rfl⟩
  have hx':l.getD i.toNat YS=(x1,x2):=hx
  have hy:l.getD (i - 1).toNat YS=yD l (i - 1):=rfl
  have e:YW (List.drop (Int.toNat (0:Int)) (List.take (Int.toNat i) l),x2)=some (Yk (ykv l i) x2):=WR (ykv l i) x2 (by have:=yh7 l i;omega)
  rw [hx',hy]
  have h2:i≤(l.length:Int):=by omega
  simp only [ae,ac,h0,h1,h2,aB,hw,hm,hx,Yd,e,aa,aH,gt_iff_lt]
  cases inR x1 1 60
  ·rfl
  ·by_cases h5:0<i
   ·have h3:0≤i - 1:=by omega
    have h4:i - 1<(l.length:Int):=by omega
    simp only [h5,h3,h4,aB,decide_true]
    cases decide ((yD l (i - 1)).1≥x1)<;>cases (x2 !=0)<;>cases decide (Yk (ykv l i) x2<0)<;>rfl
   ·simp only [h5,aU,decide_false]
    cases (x2 !=0)<;>cases decide (Yk (ykv l i) x2<0)<;>rfl
 ·intro again i hi
  unfold Wb nz
  simp only [ae,ac,am hi]
 ·cases Zm (ydL l) l 0<;>rfl
def y30 (id:Int) (s:List Int) (a:y7):List Int:=if (a.2==id&&id !=0)=true then s++[a.1] else s
def Yf (l:List y7) (id:Int):List Int:=l.foldl (y30 id) []
theorem y9t (id:Int) (s:List Int) (a:y7):(y30 id s a).length≤s.length+1:=by
 unfold y30
 split<;>simp
theorem VF (l:List y7) (id:Int) (hl:l.length≤1048576):JF (l,id)=some (Yf l id):=by
 unfold JF y2l Yf nz
 refine YO (step:=wU _) (fun (i:Int) (s:List Int)=>(l,id,i,s)) (fun s=>some s) YS (y30 id) l (by omega) (fun i s=>s.length≤i) ?_ ?_ [] (by simp)
 ·intro again i s h0 h1 hI
  have hw:Go.IntKind.wrap .i64 (i+1)=i+1:=w64 (by omega) (by omega)
  have hs:=y9t id s (l.getD i.toNat YS)
  refine ⟨?_,by omega⟩
  have c1:(s.length+1)*8<140737488355328:=by omega
  clear hs
  unfold wU y30 nz
  obtain ⟨⟨x1,x2⟩,hx⟩: ∃ x,yD l i=x:=⟨_,rfl⟩
  have hx':l.getD i.toNat YS=(x1,x2):=hx
  rw [hx']
  simp only [ae,ac,h0,h1,aB,hw,hx,ah,aj,aK,c1]
  cases (x2==id)<;>cases (id !=0)<;>rfl
 ·intro again i s hi
  unfold wU nz
  simp only [ae,ac,am hi]
theorem ykw (l:List y7):Yf l 0=[]:=by
 have: ∀ (l:List y7) (s:List Int),l.foldl (y30 0) s=s:=by
  intro l
  induction l with
  |nil=>intro s;rfl
  |cons a l ih=>
   intro s
   rw [ba,ih]
   unfold y30
   simp
 exact this l []
theorem VG (l:List y7) (id:Int) (hl:l.length≤1048576):jD (l,id)=some (Yf l id):=by
 unfold jD nz
 by_cases hid:id=0
 ·subst hid
  rw [ykw]
  rfl
 ·have hid1:(id==0)=false:=by simpa using hid
  have hid2:(id !=0)=true:=by simpa using hid
  simp only [hid1,ag]
  unfold y2I Yf
  refine YO (step:=Wc _) (fun (i:Int) (s:List Int)=>(id,l,(l.length:Int),i,s)) (fun s=>some s) YS (y30 id) l (by omega) (fun i s=>s.length≤i) ?_ ?_ [] (by simp)
  ·intro again i s h0 h1 hI
   have hw:Go.IntKind.wrap .i64 (i+1)=i+1:=w64 (by omega) (by omega)
   have hs:=y9t id s (l.getD i.toNat YS)
   refine ⟨?_,by omega⟩
   have c1:(s.length+1)*8<140737488355328:=by omega
   clear hs
   unfold Wc y30 nz
   obtain ⟨⟨x1,x2⟩,hx⟩: ∃ x,yD l i=x:=⟨_,rfl⟩
   have hx':l.getD i.toNat YS=(x1,x2):=hx
   rw [hx']
   simp only [ae,ac,h0,h1,aB,hw,hx,ah,aj,aK,c1,hid2]
   cases (x2==id)<;>rfl
  ·intro again i s hi
   unfold Wc nz
   simp only [ae,ac,am hi]
def ydM (_:Int) (a:y6):Bool:= !inR a.1 0 999||(!isW a.2.2||(!a.2.1&&a.2.2 !=0))
def Yb (l:List y6):Bool:= !Zm ydM l 0&&((l.length:Int)==24)
theorem Wu (l:List y6) (hl:l.length≤1048576):jR l=some (Yb l):=by
 unfold jR y1K Yb nz
 refine (Ye (step:=JV _ _) (fun i=>(l,i)) ydM (some false) (some ((l.length:Int)==24)) zv l (by omega) ?_ ?_).trans ?_
 ·intro again i h0 h1
  have hw:Go.IntKind.wrap .i64 (i+1)=i+1:=w64 (by omega) (by omega)
  unfold JV ydM nz
  obtain ⟨⟨x1,x2,x3⟩,hx⟩: ∃ x,ym l i=x:=⟨_,rfl⟩
  have hx':l.getD i.toNat zv=(x1,x2,x3):=hx
  rw [hx']
  simp only [ae,ac,h0,h1,aB,hw,hx,YP,qb,aa]
  cases inR x1 0 999<;>cases isW x3<;>cases x2<;>cases (x3 !=0)<;>rfl
 ·intro again i hi
  unfold JV nz
  simp only [ae,ac,am hi]
 ·cases Zm ydM l 0<;>rfl
theorem QS (l:List y6) (hl:l.length≤1048576):jU l=some (Yb l):=by
 unfold jU y1P Yb nz
 refine (Ye (step:=w6 _ _) (fun i=>(l,l,(l.length:Int),i)) ydM (some false) (some ((l.length:Int)==24)) zv l (by omega) ?_ ?_).trans ?_
 ·intro again i h0 h1
  have hw:Go.IntKind.wrap .i64 (i+1)=i+1:=w64 (by omega) (by omega)
  unfold w6 ydM nz
  obtain ⟨⟨x1,x2,x3⟩,hx⟩: ∃ x,ym l i=x:=⟨_,rfl⟩
  have hx':l.getD i.toNat zv=(x1,x2,x3):=hx
  rw [hx']
  simp only [ae,ac,h0,h1,aB,hw,hx,Yd,y2Z,aa]
  cases inR x1 0 999<;>cases isW x3<;>cases x2<;>cases (x3 !=0)<;>rfl
 ·intro again i hi
  unfold w6 nz
  simp only [ae,ac,am hi]
 ·cases Zm ydM l 0<;>rfl
def y1A (s:Int) (a:y6):Int:=if a.2.1=true then Go.IntKind.wrap .i64 (s+1) else s
def y8E (l:List y6):Int:=l.foldl y1A 0
theorem ydN (l:List y6) (hl:l.length≤1048576):JY l=some (y8E l):=by
 unfold JY y05 y8E nz
 refine YO (step:=jq _) (fun (i s:Int)=>(l,s,i)) (fun s=>some s) zv y1A l (by omega) (fun _ _=>True) ?_ ?_ 0 trivial
 ·intro again i s h0 h1 _
  have hw:Go.IntKind.wrap .i64 (i+1)=i+1:=w64 (by omega) (by omega)
  refine ⟨?_,trivial⟩
  unfold jq y1A nz
  obtain ⟨⟨x1,x2,x3⟩,hx⟩: ∃ x,ym l i=x:=⟨_,rfl⟩
  have hx':l.getD i.toNat zv=(x1,x2,x3):=hx
  rw [hx']
  simp only [ae,ac,h0,h1,aB,hw,hx]
  cases x2<;>rfl
 ·intro again i s hi
  unfold jq nz
  simp only [ae,ac,am hi]
theorem ydO (l:List y6) (hl:l.length≤1048576):w7 l=some (y8E l):=by
 unfold w7 y09 y8E nz
 refine YO (step:=jE _) (fun (i s:Int)=>(s,l,(l.length:Int),i)) (fun s=>some s) zv y1A l (by omega) (fun _ _=>True) ?_ ?_ 0 trivial
 ·intro again i s h0 h1 _
  have hw:Go.IntKind.wrap .i64 (i+1)=i+1:=w64 (by omega) (by omega)
  refine ⟨?_,trivial⟩
  unfold jE y1A nz
  obtain ⟨⟨x1,x2,x3⟩,hx⟩: ∃ x,ym l i=x:=⟨_,rfl⟩
  have hx':l.getD i.toNat zv=(x1,x2,x3):=hx
  rw [hx']
  simp only [ae,ac,h0,h1,aB,hw,hx]
  cases x2<;>rfl
 ·intro again i s hi
  unfold jE nz
  simp only [ae,ac,am hi]
def QT (l:List y6) (i gen:Int):Int×Bool:=
 if inR i 0 ((l.length:Int) - 1)&&((l.getD i.toNat zv).2.1&&((l.getD i.toNat zv).1==gen)) then ((l.getD i.toNat zv).2.2,true) else (0,false)
theorem y3U (l:List y6) (i gen:Int) (hl:l.length≤1048576):WB (l,i,gen)=some (QT l i gen):=by
 unfold WB QT nz
 have hm:Go.IntKind.wrap .i64 ((l.length:Int) - 1)=(l.length:Int) - 1:=w64 (by omega) (by omega)
 obtain ⟨⟨x1,x2,x3⟩,hx⟩: ∃ x,ym l i=x:=⟨_,rfl⟩
 have hx':l.getD i.toNat zv=(x1,x2,x3):=hx
 rw [hx']
 simp only [hm,hx,YP,aa]
 by_cases hr:inR i 0 ((l.length:Int) - 1)=true
 ·obtain ⟨h0,h1⟩:=zX.1 hr
  rw [hr,af h0,af (by omega),af h0,af (by omega),af h0,af (by omega)]
  by_cases hg:x1=gen
  ·have g1:(x1 !=gen)=false:=by simp [hg]
   have g2:(x1==gen)=true:=by simp [hg]
   rw [g1,g2]
   cases x2<;>rfl
  ·have g1:(x1 !=gen)=true:=by simpa using hg
   have g2:(x1==gen)=false:=by simpa using hg
   rw [g1,g2]
   cases x2<;>rfl
 ·have:inR i 0 ((l.length:Int) - 1)=false:=by simpa using hr
  rw [this]
  rfl
theorem y8F (l:List y6) (i gen:Int) (hl:l.length≤1048576):vf (l,i,gen)=some (QT l i gen):=by
 rw [← y3U l i gen hl]
 unfold vf WB nz
 simp only [Yd,YP]
end Go.Proofs.YtekbnpmmjciloaaGreat.Pl
namespace Go.Proofs.YtekbnpmmjciloaaGreat.Pl
open Go.Proofs.YtekbnpmmjciloaaGreat.R Go.Proofs.YtekbnpmmjciloaaGreat.XA
theorem ycj {A:Type} (p:A→Bool): ∀ (l:List A) (i j:Int),0≤i→decide (0≤YD p l i)=Zm (fun _ a=>p a) l j
 |[],i,j,_=>rfl
 |a::l,i,j,h=>by
  rw [YD,Zm,← ycj p l (i+1) (j+1) (by omega)]
  cases p a with
  |true=>simp [h]
  |false=>rfl
theorem ydP {A:Type} (da:A) (l:List A) (i j:Int) (h0:0≤j) (h:j<i):(l.take i.toNat).getD j.toNat da=l.getD j.toNat da:=by
 rw [au,au,aD,af (by omega)]
theorem yh8 {A:Type} (l:List A) (i:Int) (h0:0≤i) (h:i≤(l.length:Int)):((l.take i.toNat).length:Int)=i:=by
 rw [ak]
 omega
def vE (age:Int) (_:Int) (u:yf):Bool:=u.2.1==age
def ykx (vs:List yf) (l:List y7) (i:Int) (v:yf):Bool:=
 !Z4 v.1||(!inR v.2.2.1 1 12||(decide (Yk l v.2.1<0)||(decide (((Yf l v.2.1).length:Int)>0)||((decide (0<i)&& !Go.Op.bytesLess (ByteArray.toList (vs.getD (i - 1).toNat Yu).1) (ByteArray.toList v.1))||Zm (vE v.2.1) (vs.take i.toNat) 0))))
def vF (vs:List yf) (l:List y7):Bool:= !Zm (ykx vs l) vs 0&&decide ((vs.length:Int)≤6)
theorem y84 {R:Type} (k0:(Bool×Int×List y9×List y0×List y7×List y6×List yf×Int)→Option R) (k1:(Int×List y9×List y0×List y7×List y6×List yf×Int)→Option R) (i:Int) (q:List Int) (t:List y0) (l:List y7) (cs:List y6) (vs:List yf) (z:Int) (v1:ByteArray) (v2 v3:Int) (v4:Bool) (h0:0≤i) (h1:i≤(vs.length:Int)) (hv:vs.length≤1048576):
  qm k0 k1 (i,0,q,t,l,cs,vs,z,v1,v2,v3,v4)=if Zm (vE v2) (vs.take i.toNat) 0=true then k0 (false,i,q,t,l,cs,vs,z) else k1 (i,q,t,l,cs,vs,z):=by
 unfold qm
 have hlen:=yh8 vs i h0 h1
 refine Ye (step:=JW k0 k1) (fun k=>(i,k,q,t,l,cs,vs,z,v1,v2,v3,v4)) (vE v2) _ _ Yu (vs.take i.toNat) (by omega) ?_ ?_
 ·intro again k hk0 hk1
  rw [hlen] at hk1
  have hw:Go.IntKind.wrap .i64 (k+1)=k+1:=w64 (by omega) (by omega)
  have hk2:k<(vs.length:Int):=by omega
  unfold JW vE nz
  rw [ydP Yu vs i k hk0 hk1]
  have hx:vs.getD k.toNat Yu=yd vs k:=rfl
  rw [hx]
  simp only [ae,ac,hk0,hk1,hk2,aB,hw]
 ·intro again k hk
  rw [hlen] at hk
  unfold JW nz
  simp only [ae,ac,am hk]
theorem ydQ (q:List Int) (t:List y0) (l:List y7) (cs:List y6) (vs:List yf) (z:Int) (hl:l.length≤1048576) (hv:vs.length≤1048576) (hvn: ∀ v∈vs,ByteArray.size v.1≤maxLen):ke (q,t,l,cs,vs,z)=some (vF vs l):=by
 unfold ke y1L vF nz
 refine (Ye (step:=JX _ _) (fun i=>(i,q,t,l,cs,vs,z)) (ykx vs l) (some false) (some (decide ((vs.length:Int)≤6))) Yu vs (by omega) ?_ ?_).trans ?_
 ·intro again i h0 h1
  have hw:Go.IntKind.wrap .i64 (i+1)=i+1:=w64 (by omega) (by omega)
  have hm:Go.IntKind.wrap .i64 (i - 1)=i - 1:=w64 (by omega) (by omega)
  have hmem:=hvn _ (z5 Yu vs i h0 h1)
  unfold JX ykx nz
  obtain ⟨⟨x1,x2,x3,x4⟩,hx⟩: ∃ x,yd vs i=x:=⟨_,rfl⟩
  have hx':vs.getD i.toNat Yu=(x1,x2,x3,x4):=hx
  have hy:vs.getD (i - 1).toNat Yu=yd vs (i - 1):=rfl
  rw [hx'] at hmem
  rw [hx',hy]
  have e1:=Y5 x1 hmem
  have e2:=Zg l x2 (by omega)
  have e3:=VF l x2 hl
  simp only [ae,ac,h0,h1,aB,hw,hm,hx,YP,e1,e2,e3,y84 _ _ i q t l cs vs z x1 x2 x3 x4 h0 (by omega) hv,aa,gt_iff_lt]
  cases Z4 x1
  ·rfl
  by_cases h5:0<i
  ·have h3:0≤i - 1:=by omega
   have h4:i - 1<(vs.length:Int):=by omega
   simp only [h5,h3,h4,aB,decide_true]
   by_cases ha:Yk l x2<0<;>by_cases hk:(0:Int)<((Yf l x2).length:Int)<;>simp only [ha,hk,aB,aU,decide_true,decide_false]<;>cases Go.Op.bytesLess (ByteArray.toList (yd vs (i - 1)).1) (ByteArray.toList x1)<;>cases inR x3 1 12<;>cases Zm (vE x2) (vs.take i.toNat) 0<;>rfl
  ·simp only [h5,aU,decide_false]
   by_cases ha:Yk l x2<0<;>by_cases hk:(0:Int)<((Yf l x2).length:Int)<;>simp only [ha,hk,aB,aU,decide_true,decide_false]<;>cases inR x3 1 12<;>cases Zm (vE x2) (vs.take i.toNat) 0<;>rfl
 ·intro again i hi
  unfold JX nz
  simp only [ae,ac,am hi]
 ·cases Zm (ykx vs l) vs 0<;>rfl
theorem yfR (l:List yf) (v1:ByteArray) (v2 v3:Int) (v4:Bool) (hl:l.length≤1048576):yP (l,v1,v2,v3,v4)=some (Zm (vE v2) l 0,v1,v2,v3,v4):=by
 have key:zh (l,v1,v2,v3,v4)=some (YD (fun u:yf=>u.2.1==v2) l 0,v1,v2,v3,v4):=by
  unfold zh Zq nz
  refine (Yr (step:=z8 _ _) (fun i=>(l,(l.length:Int),i,v1,v2,v3,v4)) (fun u:yf=>u.2.1==v2) (fun x=>some (x,v1,v2,v3,v4)) (some (-1,v1,v2,v3,v4)) Yu l (by omega) ?_ ?_).trans ?_
  ·intro again i h0 h1
   have hw:Go.IntKind.wrap .i64 (i+1)=i+1:=w64 (by omega) (by omega)
   unfold z8 vd nz
   simp only [ae,ac,h0,h1,aB,hw,aa]
   rfl
  ·intro again i hi
   unfold z8 nz
   simp only [ae,ac,am hi]
  ·rcases Js (fun u:yf=>u.2.1==v2) Yu l 0 (aH _) with h|⟨h1,h2,h3⟩
   ·rw [h]
    rfl
   ·rw [am (by omega)]
 unfold yP nz
 rw [key]
 simp only [aa,ge_iff_le]
 rw [ycj _ l 0 0 (aH _)]
 rfl
theorem ydR (q:List Int) (t:List y0) (l:List y7) (cs:List y6) (vs:List yf) (z:Int) (hl:l.length≤1048576) (hv:vs.length≤1048576) (hvn: ∀ v∈vs,ByteArray.size v.1≤maxLen):ve (q,t,l,cs,vs,z)=some (vF vs l):=by
 unfold ve y2J vF nz
 refine (Ye (step:=Wd _ _) (fun i=>(vs,(vs.length:Int),i,q,t,l,cs,vs,z)) (ykx vs l) (some false) (some (decide ((vs.length:Int)≤6))) Yu vs (by omega) ?_ ?_).trans ?_
 ·intro again i h0 h1
  have hw:Go.IntKind.wrap .i64 (i+1)=i+1:=w64 (by omega) (by omega)
  have hm:Go.IntKind.wrap .i64 (i - 1)=i - 1:=w64 (by omega) (by omega)
  have hmem:=hvn _ (z5 Yu vs i h0 h1)
  unfold Wd ykx nz
  obtain ⟨⟨x1,x2,x3,x4⟩,hx⟩: ∃ x,yd vs i=x:=⟨_,rfl⟩
  have hx':vs.getD i.toNat Yu=(x1,x2,x3,x4):=hx
  have hy:vs.getD (i - 1).toNat Yu=yd vs (i - 1):=rfl
  rw [hx'] at hmem
  rw [hx',hy]
  have e1:=zH x1 hmem
  have e2:=WR l x2 (by omega)
  have e3:=VG l x2 hl
  have e4:yP (List.drop (Int.toNat (0:Int)) (List.take (Int.toNat i) vs),x1,x2,x3,x4)=some (Zm (vE x2) (vs.take i.toNat) 0,x1,x2,x3,x4):=yfR (vs.take i.toNat) x1 x2 x3 x4 (by simp only [ak];omega)
  have h2:i≤(vs.length:Int):=by omega
  simp only [ae,ac,h0,h1,h2,aB,hw,hm,hx,Yd,e1,e2,e3,e4,aa,gt_iff_lt,aH]
  cases Z4 x1
  ·rfl
  by_cases h5:0<i
  ·have h3:0≤i - 1:=by omega
   have h4:i - 1<(vs.length:Int):=by omega
   simp only [h5,h3,h4,aB,decide_true]
   by_cases ha:Yk l x2<0<;>by_cases hk:(0:Int)<((Yf l x2).length:Int)<;>simp only [ha,hk,aB,aU,decide_true,decide_false]<;>cases Go.Op.bytesLess (ByteArray.toList (yd vs (i - 1)).1) (ByteArray.toList x1)<;>cases inR x3 1 12<;>cases Zm (vE x2) (vs.take i.toNat) 0<;>rfl
  ·simp only [h5,aU,decide_false]
   by_cases ha:Yk l x2<0<;>by_cases hk:(0:Int)<((Yf l x2).length:Int)<;>simp only [ha,hk,aB,aU,decide_true,decide_false]<;>cases inR x3 1 12<;>cases Zm (vE x2) (vs.take i.toNat) 0<;>rfl
 ·intro again i hi
  unfold Wd nz
  simp only [ae,ac,am hi]
 ·cases Zm (ykx vs l) vs 0<;>rfl
end Go.Proofs.YtekbnpmmjciloaaGreat.Pl
namespace Go.Proofs.YtekbnpmmjciloaaGreat.Pl
open Go.Proofs.YtekbnpmmjciloaaGreat.R Go.Proofs.YtekbnpmmjciloaaGreat.XA
def zA (c:Int) (_:Int) (u:y8):Bool:=(u.2.2.1==1)&&(u.2.2.2.1==c)
def yit (ks:List y8) (l:List y7) (cs:List y6) (i:Int) (a:y8):Bool:=
 decide (Yk l a.2.1<0)||((a.2.2.1==1)&&(!(QT cs a.2.2.2.1 a.2.2.2.2).2||Zm (zA a.2.2.2.1) (ks.take i.toNat) 0))
def y31 (n:Int) (a:y8):Int:=if (a.2.2.1==1)=true then Go.IntKind.wrap .i64 (n+1) else n
def VH (ks:List y8) (l:List y7) (cs:List y6):Bool:= !Zm (yit ks l cs) ks 0&&(ks.foldl y31 0==y8E cs)
theorem y85 {R:Type} (k0:(Bool×Int×Int×List y9×List y0×List y7×List y6×List yf×Int×List y8)→Option R) (k1:(Int×Int×List y9×List y0×List y7×List y6×List yf×Int×List y8)→Option R) (n i:Int) (q:List Int) (t:List y0) (l:List y7) (cs:List y6) (vs:List yf) (z:Int) (ks:List y8) (h0:0≤i) (h1:i<(ks.length:Int)) (hk:ks.length≤1048576):
  V4 k0 k1 (n,i,0,q,t,l,cs,vs,z,ks)=if Zm (zA (yi ks i).2.2.2.1) (ks.take i.toNat) 0=true then k0 (false,n,i,q,t,l,cs,vs,z,ks) else k1 (n,i,q,t,l,cs,vs,z,ks):=by
 unfold V4
 have hlen:=yh8 ks i h0 (by omega)
 refine Ye (step:=J2 k0 k1) (fun k=>(n,i,k,q,t,l,cs,vs,z,ks)) (zA (yi ks i).2.2.2.1) _ _ yX (ks.take i.toNat) (by omega) ?_ ?_
 ·intro again k hk0 hk1
  rw [hlen] at hk1
  have hw:Go.IntKind.wrap .i64 (k+1)=k+1:=w64 (by omega) (by omega)
  have hk2:k<(ks.length:Int):=by omega
  unfold J2 zA nz
  rw [ydP yX ks i k hk0 hk1]
  have hx:ks.getD k.toNat yX=yi ks k:=rfl
  rw [hx]
  simp only [ae,ac,hk0,hk1,hk2,h0,h1,aB,hw]
  cases ((yi ks k).2.2.1==1)<;>cases ((yi ks k).2.2.2.1==(yi ks i).2.2.2.1)<;>rfl
 ·intro again k hk
  rw [hlen] at hk
  unfold J2 nz
  simp only [ae,ac,am hk]
theorem y86 (q:List Int) (t:List y0) (l:List y7) (cs:List y6) (vs:List yf) (z:Int) (ht:TOk t) (hl:l.length≤1048576) (hc:cs.length≤1048576):kf (q,t,l,cs,vs,z)=some (VH (yW t) l cs):=by
 unfold kf y1M VH nz
 have hk:=ht.keys
 have e:yY (q,t)=some (yW t):=YX q t (by have:=ht.len;omega) ht.nodes ht.sum
 simp only [e,aa]
 generalize yW t=ks at hk
 refine (y7d (step:=JZ _ _) (fun (i n:Int)=>(n,i,q,t,l,cs,vs,z,ks)) (yit ks l cs) y31 (some false) (fun n=>some (n==y8E cs)) yX ks (by omega) ?_ ?_ 0).trans ?_
 ·intro again i n h0 h1
  have hw:Go.IntKind.wrap .i64 (i+1)=i+1:=w64 (by omega) (by omega)
  unfold JZ yit y31 nz
  have hin:=fun (k0:(Bool×Int×Int×List y9×List y0×List y7×List y6×List yf×Int×List y8)→Option Bool) k1 m=>y85 k0 k1 m i q t l cs vs z ks h0 h1 hk
  obtain ⟨⟨x1,x2,x3,x4,x5⟩,hx⟩: ∃ x,yi ks i=x:=⟨_,rfl⟩
  have hx':ks.getD i.toNat yX=(x1,x2,x3,x4,x5):=hx
  rw [hx']
  rw [hx] at hin
  have e1:=Zg l x2 (by omega)
  have e2:=y3U cs x4 x5 hc
  simp only [ae,ac,h0,h1,aB,hw,hx,e1,e2,hin,aa]
  by_cases ha:Yk l x2<0
  ·simp only [ha,aB,decide_true,Bool.true_or]
  ·simp only [ha,aU,decide_false,cE]
   by_cases h3:x3=1
   ·have g1:(x3==1)=true:=by simp [h3]
    have g2:(x3 !=1)=false:=by simp [h3]
    rw [g1,g2]
    cases (QT cs x4 x5).2<;>cases Zm (zA x4) (ks.take i.toNat) 0<;>rfl
   ·have g1:(x3==1)=false:=by simpa using h3
    have g2:(x3 !=1)=true:=by simpa using h3
    rw [g1,g2]
    rfl
 ·intro again i n hi
  unfold JZ nz
  simp only [ae,ac,am hi,ydN cs hc,aa]
 ·cases Zm (yit ks l cs) ks 0<;>rfl
theorem yh9 (c:Int): ∀ (l:List y8) (i:Int) (j:Nat),j<l.length→Zm (zA c) (l.take (j+1)) i=(Zm (zA c) (l.take j) i||zA c 0 (l.getD j yX))
 |a::l,i,0,_=>by simp [Zm,zA]
 |a::l,i,j+1,h=>by
  have:=yh9 c l (i+1) j (by simpa using h)
  rw [cH,Zm,this,cH,Zm,b9,Bool.or_assoc]
def yif (s:Int×List Bool) (a:y8):Int×List Bool:=(y31 s.1 a,if (a.2.2.1==1)=true then s.2.set a.2.2.2.1.toNat true else s.2)
theorem yp6: ∀ (l:List y8) (s:Int×List Bool),(l.foldl yif s).1=l.foldl y31 s.1
 |[],_=>rfl
 |a::l,s=>yp6 l (yif s a)
theorem y87 (q:List Int) (t:List y0) (l:List y7) (cs:List y6) (vs:List yf) (z:Int) (ht:TOk t) (hl:l.length≤1048576) (hc:cs.length=24):kn (q,t,l,cs,vs,z)=some (VH (yW t) l cs):=by
 unfold kn y1Q VH nz
 have hk:=ht.keys
 have e:zz (q,t)=some (yW t):=wq q t (by have:=ht.len;omega) ht.nodes ht.sum
 rw [af (by omega),af (aH _),af (by omega)]
 simp only [e,aa]
 generalize yW t=ks at hk
 refine (y80 (step:=w8 _ _) (fun (i:Int) (s:Int×List Bool)=>(s.1,(ks.length:Int),i,q,t,l,cs,vs,z,s.2,ks)) (fun i s a=>if yit ks l cs i a=true then .error (some false) else .ok (yif s a)) (fun s=>some (s.1==y8E cs)) yX ks (by omega) (fun j s=>s.2.length=24∧ ∀ c:Nat,c<24→s.2.getD c false=Zm (zA (c:Int)) (ks.take j) 0) ?_ ?_ 0 (aH _) (0,List.replicate (Int.toNat 24) yjf) ⟨rfl,fun c hc=> ?_⟩).trans ?_
 ·rintro again i ⟨n,tk⟩ h0 h1 ⟨hI1,hI2⟩
  simp only at hI1 hI2
  have hw:Go.IntKind.wrap .i64 (i+1)=i+1:=w64 (by omega) (by omega)
  obtain ⟨⟨x1,x2,x3,x4,x5⟩,hx⟩: ∃ x,yi ks i=x:=⟨_,rfl⟩
  have hx':ks.getD i.toNat yX=(x1,x2,x3,x4,x5):=hx
  have hgd:ks.getD i.toNat yX=ks.getD i.toNat yX:=rfl
  have e1:=WR l x2 (by omega)
  have e2:=y8F cs x4 x5 (by omega)
  have hcell:(QT cs x4 x5).2=true→0≤x4∧x4<24:=fun h=>by
   unfold QT at h
   split at h
   ·rename_i hh
    simp only [al] at hh
    have:=zX.1 hh.1
    omega
   ·cases h
  rw [hx']
  refine ⟨?_,fun s' hs'=> ?_⟩
  ·unfold w8 yit yif y31 nz
   simp only [ae,ac,h0,h1,aB,hw,hx,e1,e2,aa]
   by_cases ha:Yk l x2<0
   ·simp only [ha,aB,decide_true,Bool.true_or]
   ·simp only [ha,aU,decide_false,cE]
    by_cases h3:x3=1
    ·have g1:(x3==1)=true:=by simp [h3]
     have g2:(x3 !=1)=false:=by simp [h3]
     rw [g1,g2]
     cases hok:(QT cs x4 x5).2 with
     |false=>rfl
     |true=>
      obtain ⟨b0,b1⟩:=hcell hok
      have b2:x4<(tk.length:Int):=by omega
      have hrd:yjg tk x4=Zm (zA x4) (ks.take i.toNat) 0:=by
       have:=hI2 x4.toNat (by omega)
       rw [show ((x4.toNat:Nat):Int)=x4 by omega] at this
       exact this
      simp only [b0,b2,aB,hrd]
      cases Zm (zA x4) (ks.take i.toNat) 0<;>rfl
    ·have g1:(x3==1)=false:=by simpa using h3
     have g2:(x3 !=1)=true:=by simpa using h3
     rw [g1,g2]
     rfl
  ·by_cases hb:yit ks l cs i (x1,x2,x3,x4,x5)=true
   ·rw [af hb] at hs'
    cases hs'
   ·rw [am hb] at hs'
    injection hs' with hs'
    subst hs'
    have hsucc: ∀ c:Int,Zm (zA c) (ks.take (i.toNat+1)) 0=(Zm (zA c) (ks.take i.toNat) 0||zA c 0 (x1,x2,x3,x4,x5)):=fun c=>by
     rw [yh9 c ks 0 i.toNat (by omega),hx']
    unfold yif
    simp only
    by_cases h3:x3=1
    ·have g1:(x3==1)=true:=by simp [h3]
     simp only [g1,aB]
     have hok:(QT cs x4 x5).2=true:=by
      unfold yit at hb
      simp only [g1] at hb
      cases hh:(QT cs x4 x5).2 with
      |true=>rfl
      |false=>
       rw [hh] at hb
       simp at hb
     obtain ⟨b0,b1⟩:=hcell hok
     refine ⟨by simpa using hI1,fun c hc=> ?_⟩
     rw [hsucc,← hI2 c hc]
     unfold zA
     simp only [g1,br]
     rw [au,au]
     by_cases hcx:c=x4.toNat
     ·rw [← hcx,bh (by omega)]
      have:(x4==(c:Int))=true:=by
       simp only [bJ]
       omega
      rw [this]
      simp
     ·rw [bl (fun h=>hcx h.symm)]
      have:(x4==(c:Int))=false:=by
       simp only [bj,ne_eq]
       omega
      rw [this]
      simp
    ·have g1:(x3==1)=false:=by simpa using h3
     simp only [g1,aX,aU]
     refine ⟨hI1,fun c hc=> ?_⟩
     rw [hsucc,← hI2 c hc]
     unfold zA
     simp only [g1,co,Bool.or_false]
 ·rintro again i ⟨n,tk⟩ hi
  unfold w8 nz
  simp only [ae,ac,am hi,ydO cs (by omega),aa]
  rw [Bool.beq_comm]
 ·show (List.replicate 24 false).getD c false=_
  rw [au,b8]
  simp [Zm,hc]
 ·have:=y7c (yit ks l cs) yif (some false) (fun s:Int×List Bool=>some (s.1==y8E cs)) ks 0 (0,List.replicate (Int.toNat 24) yjf)
  rw [show (0:Int).toNat=0 from rfl,cN,this,yp6]
  cases Zm (yit ks l cs) ks 0<;>rfl
def y4i (z:Int) (_:Int) (a:y7):Bool:=decide (a.1≥z)
def yK (q:List Int) (t:List y0) (l:List y7) (cs:List y6) (vs:List yf) (z:Int):Bool:=
 ZG q t&&(wD l&&(Yb cs&&(inR z 1 61&&(!Zm (y4i z) l 0&&(vF vs l&&VH (yW t) l cs)))))
theorem y3V (q:List Int) (t:List y0) (l:List y7) (cs:List y6) (vs:List yf) (z:Int) (ht:TOk t) (hl:l.length≤1048576) (hc:cs.length≤1048576) (hv:vs.length≤1048576) (hvn: ∀ v∈vs,ByteArray.size v.1≤maxLen):yV (q,t,l,cs,vs,z)=some (yK q t l cs vs z):=by
 unfold yV y2m yK nz
 refine (Ye (step:=wV _ _) (fun i=>(i,q,t,l,cs,vs,z)) (y4i z) (some false) (some (ZG q t&&(wD l&&(Yb cs&&(inR z 1 61&&(vF vs l&&VH (yW t) l cs)))))) YS l (by omega) ?_ ?_).trans ?_
 ·intro again i h0 h1
  have hw:Go.IntKind.wrap .i64 (i+1)=i+1:=w64 (by omega) (by omega)
  unfold wV y4i nz
  have hx:l.getD i.toNat YS=yD l i:=rfl
  rw [hx]
  simp only [ae,ac,h0,h1,aB,hw]
 ·intro again i hi
  unfold wV nz
  simp only [ae,ac,am hi,y0x q t ht,kE l hl,Wu cs hc,YP,ydQ q t l cs vs z hl hv hvn,y86 q t l cs vs z ht hl hc,aa]
  cases ZG q t<;>cases wD l<;>cases Yb cs<;>cases inR z 1 61<;>cases vF vs l<;>rfl
 ·cases Zm (y4i z) l 0<;>cases ZG q t<;>cases wD l<;>cases Yb cs<;>cases inR z 1 61<;>rfl
theorem y3W (q:List Int) (t:List y0) (l:List y7) (cs:List y6) (vs:List yf) (z:Int) (ht:TOk t) (hl:l.length≤1048576) (hc:cs.length≤1048576) (hv:vs.length≤1048576) (hvn: ∀ v∈vs,ByteArray.size v.1≤maxLen):z9 (q,t,l,cs,vs,z)=some (yK q t l cs vs z):=by
 unfold z9 yK nz
 simp only [y0y q t ht,y0z l hl,QS cs hc,Yd,aa]
 cases ZG q t
 ·rfl
 cases wD l
 ·rfl
 cases hcc:Yb cs
 ·rfl
 cases inR z 1 61
 ·rfl
 have hc24:cs.length=24:=by
  unfold Yb at hcc
  simp only [al,bJ] at hcc
  omega
 simp only [ay,ag,aa,br]
 unfold y2K
 refine (Ye (step:=We _ _) (fun i=>(l,(l.length:Int),i,q,t,l,cs,vs,z)) (y4i z) (some false) (some (vF vs l&&VH (yW t) l cs)) YS l (by omega) ?_ ?_).trans ?_
 ·intro again i h0 h1
  have hw:Go.IntKind.wrap .i64 (i+1)=i+1:=w64 (by omega) (by omega)
  unfold We y4i nz
  have hx:l.getD i.toNat YS=yD l i:=rfl
  rw [hx]
  simp only [ae,ac,h0,h1,aB,hw]
 ·intro again i hi
  unfold We nz
  simp only [ae,ac,am hi,ydR q t l cs vs z hl hv hvn,y87 q t l cs vs z ht hl hc24,aa]
  cases vF vs l<;>rfl
 ·cases Zm (y4i z) l 0<;>rfl
end Go.Proofs.YtekbnpmmjciloaaGreat.Pl
namespace Go.Proofs.YtekbnpmmjciloaaGreat.Pl
open Go.Proofs.YtekbnpmmjciloaaGreat.R Go.Proofs.YtekbnpmmjciloaaGreat.XA
theorem y4j {A:Type} (p:Int→A→Bool): ∀ (l:List A) (i:Int),Zm p l i=false→ ∀ a∈l,∃ j,p j a=false
 |[],_,_,a,h=>by simp at h
 |b::l,i,h,a,ha=>by
  simp only [Zm,aL] at h
  rcases aA.1 ha with rfl|ha
  ·exact ⟨i,h.1⟩
  ·exact y4j p l (i+1) h.2 a ha
theorem yck {s:List y8} (h:y1V s=true):s.length≤60∧ ∀ k∈s,WW k=true:=by
 unfold y1V at h
 simp only [al,bd,ac] at h
 refine ⟨by omega,fun k hk=> ?_⟩
 obtain ⟨j,hj⟩:=y4j _ s 0 h.1 k hk
 simpa using hj
theorem y88 {n:List ya} (h:Zu n=true):n.length≤3∧ ∀ s∈n,y1V s=true:=by
 unfold Zu at h
 simp only [al,bd,ac] at h
 refine ⟨by omega,fun s hs=> ?_⟩
 obtain ⟨j,hj⟩:=y4j _ n 0 h.1 s hs
 unfold y4Z at hj
 simp only [aL,bc] at hj
 exact hj.1
theorem kF {q:List Int} {t:List y0} (h:ZG q t=true):q.length=t.length∧1≤t.length∧t.length≤20∧ ∀ n∈t,Zu n=true:=by
 unfold ZG at h
 simp only [al,bd,ac,zX] at h
 obtain ⟨h1,h2,_,h3,_⟩:=h
 refine ⟨h2,by omega,by omega,fun n hn=> ?_⟩
 obtain ⟨j,hj⟩:=y4j _ t 0 h3 n hn
 unfold y2Y at hj
 simp only [aL,bc] at hj
 have h4:=hj.2
 unfold yfQ at h4
 simp only [al] at h4
 exact h4.1
end Go.Proofs.YtekbnpmmjciloaaGreat.Pl
namespace Go.Proofs.YtekbnpmmjciloaaGreat.Pl
open Go.Proofs.YtekbnpmmjciloaaGreat.R Go.Proofs.YtekbnpmmjciloaaGreat.XA
theorem y89 {a b:y8}:y1x a b=true↔a.1<b.1∨a.1=b.1∧a.2.1<b.2.1:=by
 unfold y1x
 by_cases h1:a.1<b.1
 ·simp [h1]
 ·by_cases h2:a.1=b.1<;>simp [h1,h2]
theorem ydS {a b:y8}:y1y a b=true↔a.1=b.1∧a.2.1=b.2.1:=by simp [y1y]
def srt (l:List y8):Prop:=l.Pairwise fun a b=>y1x a b=true
def yky:List y8→y8→List y8
 |[],k=>[k]
 |c::r,k=>if y1x c k=true then c::yky r k else k::(c::r).filter fun x=> !y1y x k
theorem yha (k:y8): ∀ (l o:List y8),l.foldl (wC k) (true,o)=(true,o++l.filter fun x=> !y1y x k)
 |[],o=>by simp
 |c::l,o=>by
  rw [ba,cD]
  have e:wC k (true,o) c=(true,if y1y c k then o else o++[c]):=by simp [wC]
  rw [e,yha k l]
  cases y1y c k<;>simp
def ytv (k:y8) (r:Bool×List y8):List y8:=if r.1 then r.2 else r.2++[k]
theorem ydT (k:y8): ∀ (l o:List y8),ytv k (l.foldl (wC k) (false,o))=o++yky l k
 |[],o=>by simp [yky,ytv]
 |c::l,o=>by
  rw [ba,yky]
  cases hl:y1x c k with
  |true=>
   have hs:y1y c k=false:=by
    cases hs:y1y c k with
    |false=>rfl
    |true=>
     rw [y89] at hl
     rw [ydS] at hs
     omega
   have e:wC k (false,o) c=(false,o++[c]):=by simp [wC,hl,hs]
   rw [e,ydT k l (o++[c])]
   simp
  |false=>
   have e:wC k (false,o) c=(true,if y1y c k then o++[k] else o++[k]++[c]):=by simp [wC,hl]
   rw [e,yha]
   simp only [ytv,aB,cD,aX,aU]
   cases y1y c k<;>simp
theorem y9u (l:List y8) (k:y8):WV l k=yky l k:=by
 exact (ydT k l []).trans (aT _)
theorem ycl {k:y8}: ∀ {l:List y8} {x:y8},x∈yky l k→x=k∨x∈l
 |[],x,h=>by simpa [yky] using h
 |c::r,x,h=>by
  rw [yky] at h
  split at h
  ·rcases aA.1 h with rfl|h
   ·exact .inr (by simp)
   ·rcases ycl h with h|h
    ·exact .inl h
    ·exact .inr (by simp [h])
  ·rcases aA.1 h with rfl|h
   ·exact .inl rfl
   ·exact .inr (cF.1 h).1
theorem yhb (k:y8): ∀ (l:List y8),srt l→srt (yky l k)
 |[],_=>by simp [srt,yky]
 |c::r,h=>by
  obtain ⟨h1,h2⟩:=bq.1 h
  rw [yky]
  split
  ·rename_i hl
   refine bq.2 ⟨fun y hy=> ?_,yhb k r h2⟩
   rcases ycl hy with rfl|hy
   ·exact hl
   ·exact h1 y hy
  ·rename_i hl
   refine bq.2 ⟨fun y hy=> ?_,List.Pairwise.filter _ h⟩
   obtain ⟨hy,hs⟩:=cF.1 hy
   have hs': ¬ (y.1=k.1∧y.2.1=k.2.1):=fun e=>by
    rw [ydS.2 e] at hs
    cases hs
   rw [y89] at hl ⊢
   rcases aA.1 hy with rfl|hy
   ·omega
   ·have:=y89.1 (h1 y hy)
    omega
theorem y9v {l:List y8} (k:y8) (h:srt l):srt (WV l k):=by rw [y9u];exact yhb k l h
theorem y9w {l:List y8} {k x:y8} (h:x∈WV l k):x=k∨x∈l:=by rw [y9u] at h;exact ycl h
theorem y9x: ∀ (b a:List y8),srt a→srt (K8 a b)
 |[],_,h=>h
 |c::b,a,h=>y9x b _ (y9v c h)
theorem y9y: ∀ (b a:List y8) {x:y8},x∈K8 a b→x∈a∨x∈b
 |[],_,_,h=> .inl h
 |c::b,a,x,h=>by
  rcases y9y b (WV a c) h with h|h
  ·rcases y9w h with rfl|h
   ·exact .inr (by simp)
   ·exact .inl h
  ·exact .inr (by simp [h])
theorem yhc: ∀ (l s:List y8),l.foldl QQ s=s++l.filter fun c=> !decide (c.2.2.1=0)
 |[],s=>by simp
 |c::l,s=>by
  rw [ba,yhc l,cD]
  unfold QQ
  by_cases h:c.2.2.1=0<;>simp [h]
theorem yhd (l:List y8):y7X l=l.filter fun c=> !decide (c.2.2.1=0):=by
 have:=yhc l []
 simpa [y7X] using this
theorem ydU {l:List y8} (h:srt l):srt (y7X l):=by rw [yhd];exact List.Pairwise.filter _ h
theorem ydV {l:List y8} {x:y8} (h:x∈y7X l):x∈l:=by rw [yhd] at h;exact (cF.1 h).1
theorem ydW: ∀ (n:List ya) (s:List y8),srt s→srt (n.foldl K8 s)
 |[],_,h=>h
 |c::n,s,h=>ydW n _ (y9x c s h)
theorem ydX: ∀ (n:List ya) (s:List y8) {x:y8},x∈n.foldl K8 s→x∈s∨ ∃ c∈n,x∈(show List y8 from c)
 |[],_,_,h=> .inl h
 |c::n,s,x,h=>by
  rcases ydX n (K8 s c) h with h|⟨d,hd,hx⟩
  ·rcases y9y c s h with h|h
   ·exact .inl h
   ·exact .inr ⟨c,by simp,h⟩
  ·exact .inr ⟨d,by simp [hd],hx⟩
theorem ykz (n:List ya):srt (zo n):=ydU (ydW n [] List.Pairwise.nil)
theorem ykA {n:List ya} {x:y8} (h:x∈zo n): ∃ c∈n,x∈(show List y8 from c):=by
 rcases ydX n [] (ydV h) with h|h
 ·cases h
 ·exact h
theorem y50 {A:Type} {p:Int→A→Bool} (da:A): ∀ (l:List A) (i:Int),(∀ j:Nat,j<l.length→p (i+j) (l.getD j da)=false)→Zm p l i=false
 |[],_,_=>rfl
 |a::l,i,h=>by
  rw [Zm,aL]
  refine ⟨by simpa using h 0 (by simp),y50 da l (i+1) fun j hj=> ?_⟩
  have:=h (j+1) (by simpa using hj)
  rw [b9] at this
  rw [show i+1+(j:Int)=i+((j+1:Nat):Int) by omega]
  exact this
theorem y32 {A:Type} (da:A) (l:List A) (j:Nat) (h:j<l.length):l.getD j da=l[j]:=by simp [List.getD,h]
theorem ykB {l:List y8} (h:srt l):Zm (kU l) l 0=false:=by
 refine y50 yX l 0 fun j hj=> ?_
 unfold kU
 cases j with
 |zero=>simp
 |succ j=>
  have h2:=List.pairwise_iff_getElem.1 h j (j+1) (by omega) hj (by omega)
  rw [show ((0:Int)+((j+1:Nat):Int) - 1).toNat=j by omega,y32 _ _ _ (by omega),y32 _ _ _ hj,h2]
  simp
theorem yDj {l:List y8} (h:srt l) (hk: ∀ k∈l,WW k=true) (hl:l.length≤60):y1V l=true:=by
 unfold y1V
 rw [ykB h,y50 yX l 0 fun j hj=>by
  rw [y32 _ _ _ hj,hk _ (cR hj)]
  rfl]
 simp
 omega
def zU (l:List y8):List ya:=if l.length=0 then [] else [l]
theorem yig {l:List y8} (h:srt l) (hk: ∀ k∈l,WW k=true) (hl:l.length≤8):Zu (zU l)=true:=by
 unfold zU
 split
 ·rfl
 ·rename_i h0
  have h1:=yDj h hk (by omega)
  have h2:y3T 0 l=(List.length l:Int):=by
   unfold y3T
   rw [w64 (by omega) (by omega)]
   omega
  unfold Zu
  simp only [Zm,y4Z,h1,ay,cE,Bool.or_false,ba,List.foldl_nil,h2,ah,aj]
  rw [show (((List.length l:Nat):Int)==0)=false from bj.2 (by omega)]
  simp
  omega
end Go.Proofs.YtekbnpmmjciloaaGreat.Pl
namespace Go.Proofs.YtekbnpmmjciloaaGreat.Pl
open Go.Proofs.YtekbnpmmjciloaaGreat.R Go.Proofs.YtekbnpmmjciloaaGreat.XA
theorem y51 {T A R:Type} {step:(T→Option R)→T→Option R} (da:A) (l:List A) (St0:Int→T) (St1:Int→List A→T) (k0:Option R) (k1:List A→Option R) (hl:l.length≤1099511627776)
  (h0: ∀ again i,0≤i→i<((List.length l:Nat):Int)→step again (St0 i)=again (St1 (i+1) [l.getD i.toNat da]))
  (h1: ∀ again i o,0≤i→i<((List.length l:Nat):Int)→List.length o≤List.length l→step again (St1 i o)=again (St1 (i+1) (o++[l.getD i.toNat da])))
  (hd0: ∀ again i,¬ i<((List.length l:Nat):Int)→step again (St0 i)=k0)
  (hd1: ∀ again i o,¬ i<((List.length l:Nat):Int)→step again (St1 i o)=k1 o):zI step zY (St0 0)=if l.length=0 then k0 else k1 l:=by
 have key: ∀ (m:Nat) (i:Int),0≤i→i≤l.length→l.length - i.toNat<m→zI step m (St1 i (l.take i.toNat))=k1 l:=by
  intro m
  induction m with
  |zero=>intro i _ _ h;omega
  |succ m ih=>
   intro i i0 i1 hm
   rw [zI]
   by_cases hi:i<((List.length l:Nat):Int)
   ·have e1:(i+1).toNat=i.toNat+1:=by omega
    have e2:l.take i.toNat++[l.getD i.toNat da]=l.take (i+1).toNat:=by
     rw [e1,List.take_succ_eq_append_getElem (by omega),ycd da l i i0 hi]
    rw [h1 _ i _ i0 hi (by rw [ak];omega),e2]
    exact ih (i+1) (by omega) (by omega) (by omega)
   ·rw [hd1 _ i _ hi,ce (by omega)]
 have hF:zY=(zY - 1)+1:=by
  have:=y1s
  omega
 rw [hF,zI]
 by_cases h:l.length=0
 ·rw [af h,hd0 _ 0 (by omega)]
 ·rw [am h,h0 _ 0 (aH _) (by omega)]
  have e:[l.getD (0:Int).toNat da]=l.take (0+1:Int).toNat:=by
   cases l with
   |nil=>simp at h
   |cons a l=>rfl
  rw [e]
  exact key _ _ (by omega) (by omega) (by
   have:=y1s
   omega)
theorem yE4 {A:Type} (a:A) (k:Nat) (h:k<140737488355328):List.length [a]*k<140737488355328:=by
 simp only [ah,aj]
 omega
end Go.Proofs.YtekbnpmmjciloaaGreat.Pl
namespace Go.Proofs.YtekbnpmmjciloaaGreat.Pl
open Go.Proofs.YtekbnpmmjciloaaGreat.R Go.Proofs.YtekbnpmmjciloaaGreat.XA
def y6z (n:y0):Prop:=List.length n≤1048576∧ ∀ b∈(show List ya from n),List.length b≤1048576
theorem y0A (n:List ya) (h:y6z n):zD n=some n:=by
 have h1:n.length≤1048576:=h.1
 have e:zD n=if n.length=0 then some ([]:List ya) else some n:=by
  unfold zD y2n nz
  refine y51 (step:=ZQ _ _) zk n (fun i=>Sum.inl (i,n)) (fun i o=>Sum.inr (i,n,o)) _ (fun o=>some o) (by omega) ?_ ?_ ?_ ?_
  ·intro again i i0 i1
   have hw:Go.IntKind.wrap .i64 (i+1)=i+1:=w64 (by omega) (by omega)
   have hr:List.length (yu n i)≤1048576:=h.2 _ (z5 zk n i i0 i1)
   simp only [nz,ZQ,ae,ac,i0,i1,aB,hw]
   rw [af (by simp only [aj];omega),af (yE4 _ _ (by decide))]
   rfl
  ·intro again i o i0 i1 i2
   have hw:Go.IntKind.wrap .i64 (i+1)=i+1:=w64 (by omega) (by omega)
   have hr:List.length (yu n i)≤1048576:=h.2 _ (z5 zk n i i0 i1)
   simp only [nz,ZQ,ae,ac,i0,i1,aB,hw]
   rw [af (by simp only [aj];omega),af (by simp only [ah,aj];omega)]
   rfl
  ·intro again i hi
   simp only [nz,ZQ,ae,ac,am hi]
  ·intro again i o hi
   simp only [nz,ZQ,ae,ac,am hi]
 rw [e]
 split
 ·rename_i h0
  rw [aP.1 h0]
 ·rfl
theorem qv (l:List y8) (h:l.length≤1048576):YK l=some l:=by
 unfold YK nz
 rw [af (by simp only [aj];omega)]
 rfl
theorem qw (n:List ya) (h:y6z n):Y0 n=some n:=by
 have h1:n.length≤1048576:=h.1
 have e:Y0 n=if n.length=0 then some ([]:List ya) else some n:=by
  unfold Y0 y0V nz
  refine y51 (step:=Z7 _ _) zk n (fun i=>Sum.inl (n,((List.length n:Nat):Int),i)) (fun i o=>Sum.inr (n,((List.length n:Nat):Int),i,o)) _ (fun o=>some o) (by omega) ?_ ?_ ?_ ?_
  ·intro again i i0 i1
   have hw:Go.IntKind.wrap .i64 (i+1)=i+1:=w64 (by omega) (by omega)
   have hr:List.length (yu n i)≤1048576:=h.2 _ (z5 zk n i i0 i1)
   simp only [nz,Z7,ae,ac,i0,i1,aB,hw,qv _ hr,aa]
   rw [af (yE4 _ _ (by decide))]
   rfl
  ·intro again i o i0 i1 i2
   have hw:Go.IntKind.wrap .i64 (i+1)=i+1:=w64 (by omega) (by omega)
   have hr:List.length (yu n i)≤1048576:=h.2 _ (z5 zk n i i0 i1)
   simp only [nz,Z7,ae,ac,i0,i1,aB,hw,qv _ hr,aa]
   rw [af (by simp only [ah,aj];omega)]
   rfl
  ·intro again i hi
   simp only [nz,Z7,ae,ac,am hi]
  ·intro again i o hi
   simp only [nz,Z7,ae,ac,am hi]
 rw [e]
 split
 ·rename_i h0
  rw [aP.1 h0]
 ·rfl
theorem VI (q:List y9) (t:List y0) (hq:q.length≤1048576) (ht:t.length≤1048576) (hn: ∀ n∈t,y6z n):jr (q,t)=some (q,t):=by
 have e:jr (q,t)=if t.length=0 then some (q,([]:List y0)) else some (q,t):=by
  unfold jr y2o nz
  simp only [aj,aT]
  rw [af (by omega)]
  refine y51 (step:=ZR _ _) yH t (fun i=>Sum.inl (i,q,t,q)) (fun i o=>Sum.inr (i,q,t,q,o)) _ (fun o=>some (q,o)) (by omega) ?_ ?_ ?_ ?_
  ·intro again i i0 i1
   have hw:Go.IntKind.wrap .i64 (i+1)=i+1:=w64 (by omega) (by omega)
   have hr:y6z (yk t i):=hn _ (z5 yH t i i0 i1)
   simp only [nz,ZR,ae,ac,i0,i1,aB,hw,y0A _ hr,aa]
   rw [af (yE4 _ _ (by decide))]
   rfl
  ·intro again i o i0 i1 i2
   have hw:Go.IntKind.wrap .i64 (i+1)=i+1:=w64 (by omega) (by omega)
   have hr:y6z (yk t i):=hn _ (z5 yH t i i0 i1)
   simp only [nz,ZR,ae,ac,i0,i1,aB,hw,y0A _ hr,aa]
   rw [af (by simp only [ah,aj];omega)]
   rfl
  ·intro again i hi
   simp only [nz,ZR,ae,ac,am hi]
  ·intro again i o hi
   simp only [nz,ZR,ae,ac,am hi]
 rw [e]
 split
 ·rename_i h0
  rw [aP.1 h0]
 ·rfl
theorem ws (l:List y9) (h:l.length≤1048576):Yn l=some l:=by
 unfold Yn nz
 rw [af (by simp only [aj];omega)]
 rfl
theorem qx (q:List y9) (t:List y0) (hq:q.length≤1048576) (ht:t.length≤1048576) (hn: ∀ n∈t,y6z n):zN (q,t)=some (q,t):=by
 have e:zN (q,t)=if t.length=0 then some (q,([]:List y0)) else some (q,t):=by
  unfold zN y0W nz
  simp only [ws q hq,aa]
  refine y51 (step:=Z8 _ _) yH t (fun i=>Sum.inl (t,((List.length t:Nat):Int),i,q)) (fun i o=>Sum.inr (t,((List.length t:Nat):Int),i,q,o)) _ (fun o=>some (q,o)) (by omega) ?_ ?_ ?_ ?_
  ·intro again i i0 i1
   have hw:Go.IntKind.wrap .i64 (i+1)=i+1:=w64 (by omega) (by omega)
   have hr:y6z (yk t i):=hn _ (z5 yH t i i0 i1)
   simp only [nz,Z8,ae,ac,i0,i1,aB,hw,qw _ hr,aa]
   rw [af (yE4 _ _ (by decide))]
   rfl
  ·intro again i o i0 i1 i2
   have hw:Go.IntKind.wrap .i64 (i+1)=i+1:=w64 (by omega) (by omega)
   have hr:y6z (yk t i):=hn _ (z5 yH t i i0 i1)
   simp only [nz,Z8,ae,ac,i0,i1,aB,hw,qw _ hr,aa]
   rw [af (by simp only [ah,aj];omega)]
   rfl
  ·intro again i hi
   simp only [nz,Z8,ae,ac,am hi]
  ·intro again i o hi
   simp only [nz,Z8,ae,ac,am hi]
 rw [e]
 split
 ·rename_i h0
  rw [aP.1 h0]
 ·rfl
theorem vG (q:List y9) (t:List y0) (l:List y7) (cs:List y6) (vs:List yf) (z:Int) (h:small q t l cs vs):yo (q,t,l,cs,vs,z)=some (q,t,l,cs,vs,z):=by
 obtain ⟨h1,h2,h3,h4,h5,h6⟩:=h
 unfold yo YH nz
 simp only [VI q t h1 h2 (fun n hn=>K9 h3 hn),aa,aj,aT]
 rw [af (by omega),af (by omega)]
 simp only [aa]
 rw [af (by omega)]
theorem wt (q:List y9) (t:List y0) (l:List y7) (cs:List y6) (vs:List yf) (z:Int) (h:small q t l cs vs):ye (q,t,l,cs,vs,z)=some (q,t,l,cs,vs,z):=by
 obtain ⟨h1,h2,h3,h4,h5,h6⟩:=h
 unfold ye Y1 Y4 nz
 simp only [qx q t h1 h2 (fun n hn=>K9 h3 hn),aa,aj,aT]
 rw [af (by omega)]
 simp only [aa]
 rw [af (by omega)]
 simp only [aa]
 rw [af (by omega)]
end Go.Proofs.YtekbnpmmjciloaaGreat.Pl
namespace Go.Proofs.YtekbnpmmjciloaaGreat.Pl
open Go.Proofs.YtekbnpmmjciloaaGreat.R Go.Proofs.YtekbnpmmjciloaaGreat.XA
def y8a (t:List y0) (l:List y7) (blk id:Int):Bool×y8:=y2X (y0f (yW t) blk) ((y3P l id).drop 1)
theorem yfS (ks:List y8):y2X ks []=(false,(0,0,0,0,0)):=by
 unfold y2X
 induction ks with
 |nil=>rfl
 |cons a ks ih=>
  rw [ba,show y4g [] (false,((0:Int),(0:Int),(0:Int),(0:Int),(0:Int))) a=(false,(0,0,0,0,0)) by
   unfold y4g yts YD
   simp]
  exact ih
theorem y1B (q:List Int) (t:List y0) (l:List y7) (blk id:Int) (ht:TOk t) (hl:l.length≤1048576):jd (q,t,l,blk,id)=some (ans (y8a t l blk id)):=by
 unfold jd y8a nz
 have hp:=y3o l id hl
 simp only [y3Q l id hl,aa]
 generalize y3P l id=p at hp
 cases p with
 |nil=>
  rw [show List.drop 1 ([]:List Int)=[] from rfl,yfS]
  rfl
 |cons a p=>
  have h1:(((a::p).length:Int)==0)=false:=by
   simp only [ah,bj,ne_eq]
   omega
  have h2:(1:Int)≤((a::p).length:Int):=by
   simp only [ah]
   omega
  have e:JH (q,t,blk,List.drop (Int.toNat (1:Int)) (List.take (Int.toNat ((a::p).length:Int)) (a::p)))=some (ans (y2X (y0f (yW t) blk) (List.drop 1 (a::p)))):=by
   rw [show Int.toNat ((a::p).length:Int)=(a::p).length by omega,bF]
   exact y66 q t blk _ ht (by simp only [aC];omega)
  simp only [h1,ag,h2,aH,aB,e,aa]
  rw [af (by omega)]
theorem y52 (q:List Int) (t:List y0) (l:List y7) (blk id:Int) (ht:TOk t) (hl:l.length≤1048576):ji (q,t,l,blk,id)=some (ans (y8a t l blk id)):=by
 unfold ji y8a nz
 have hp:=y3o l id hl
 simp only [y3R l id hl,aa]
 generalize y3P l id=p at hp
 have e:JM (q,t,blk,List.drop (Int.toNat (if (p.length:Int)<(1:Int) then (p.length:Int) else (1:Int))) (List.take (Int.toNat (p.length:Int)) p))=some (ans (y2X (y0f (yW t) blk) (List.drop 1 p))):=by
  rw [show Int.toNat (p.length:Int)=p.length by omega,bF]
  have:List.drop (Int.toNat (if (p.length:Int)<(1:Int) then (p.length:Int) else (1:Int))) p=List.drop 1 p:=by
   cases p with
   |nil=>rfl
   |cons a p=>
    rw [am (by simp only [ah];omega)]
    rfl
  rw [this]
  exact y3S q t blk _ ht (by simp only [aC];omega)
 rw [af (by split<;>omega),af (by split<;>omega),af (aH _),e]
 rfl
def y5G (vs:List yf) (id:Int):Bool:= !Zm (vE id) vs 0
theorem y33 (q:List Int) (t:List y0) (l:List y7) (cs:List y6) (vs:List yf) (z id:Int) (hv:vs.length≤1048576):V6 (q,t,l,cs,vs,z,id)=some (y5G vs id):=by
 unfold V6 y4R y5G nz
 refine (Ye (step:=KA _ _) (fun i=>(id,i,q,t,l,cs,vs,z)) (vE id) (some false) (some true) Yu vs (by omega) ?_ ?_).trans ?_
 ·intro again i h0 h1
  have hw:Go.IntKind.wrap .i64 (i+1)=i+1:=w64 (by omega) (by omega)
  unfold KA vE nz
  have hx:vs.getD i.toNat Yu=yd vs i:=rfl
  rw [hx]
  simp only [ae,ac,h0,h1,aB,hw]
 ·intro again i hi
  unfold KA nz
  simp only [ae,ac,am hi]
 ·cases Zm (vE id) vs 0<;>rfl
theorem y67 (q:List Int) (t:List y0) (l:List y7) (cs:List y6) (vs:List yf) (z id:Int) (hv:vs.length≤1048576):Vh (q,t,l,cs,vs,z,id)=some (y5G vs id):=by
 have key:zw (vs,id)=some (YD (fun u:yf=>u.2.1==id) vs 0,id):=by
  unfold zw ZL nz
  refine (Yr (step:=zj _ _) (fun i=>(vs,(vs.length:Int),i,id)) (fun u:yf=>u.2.1==id) (fun x=>some (x,id)) (some (-1,id)) Yu vs (by omega) ?_ ?_).trans ?_
  ·intro again i h0 h1
   have hw:Go.IntKind.wrap .i64 (i+1)=i+1:=w64 (by omega) (by omega)
   unfold zj qO nz
   simp only [ae,ac,h0,h1,aB,hw,aa]
   rfl
  ·intro again i hi
   unfold zj nz
   simp only [ae,ac,am hi]
  ·rcases Js (fun u:yf=>u.2.1==id) Yu vs 0 (aH _) with h|⟨h1,h2,h3⟩
   ·rw [h]
    rfl
   ·rw [am (by omega)]
 unfold Vh zF y5G nz
 rw [key]
 simp only [aa,ge_iff_le]
 rw [ycj _ vs 0 0 (aH _)]
 rfl
def qc (q:List Int) (sp:Int):Nat→Int
 |0=> -1
 |n+1=>if q.getD n 0≤sp then (n:Int) else qc q sp n
def kG (blk age:Int):Int:=Go.IntKind.wrap .i64 (Go.IntKind.wrap .i64 ((64:Int)*blk)+age)
theorem y9z (q:List Int) (sp:Int): ∀ n,-1≤qc q sp n∧qc q sp n<n
 |0=>by simp [qc]
 |n+1=>by
  have:=y9z q sp n
  rw [qc]
  split<;>omega
theorem y34 (q:List Int) (t:List y0) (blk age:Int) (hq:q.length≤1048576):wv (q,t,blk,age)=some (qc q (kG blk age) q.length):=by
 unfold wv y1N nz
 have h:=Z2 (step:=kK (fun x2=>some x2)) (fun u:kJ=>q.length - u.2.2.2.1.toNat) (fun u=> ∃ n:Nat,n≤q.length∧u=(blk,age,qc q (kG blk age) n,(n:Int),q,t)) (fun _=>some (qc q (kG blk age) q.length)) ?_ (blk,age,-1,0,q,t) ⟨0,by omega,rfl⟩ (by simp;omega)
 ·exact h
 ·rintro again u ⟨n,hn,rfl⟩ hag
  have hw:Go.IntKind.wrap .i64 ((n:Int)+1)=((n+1:Nat):Int):=by rw [w64 (by omega) (by omega)];omega
  unfold kK Wz nz
  have h0:0≤(n:Int):=by omega
  by_cases hlt:(n:Int)<(q.length:Int)
  ·have hx:zB q (n:Int)=q.getD n 0:=rfl
   simp only [ae,ac,hlt,h0,aB,aa,hw,hx]
   have e:=hag (blk,age,qc q (kG blk age) (n+1),((n+1:Nat):Int),q,t) ⟨n+1,by omega,rfl⟩ (by simp only;omega)
   rw [qc] at e
   unfold kG at e ⊢
   split
   ·rename_i hc
    rw [af hc] at e
    exact e
   ·rename_i hc
    rw [am hc] at e
    exact e
  ·rw [show n=q.length by omega]
   simp
theorem y35 (q:List Int) (t:List y0) (blk age:Int) (hq:q.length≤1048576):wz (q,t,blk,age)=some (qc q (kG blk age) q.length):=by
 unfold wz y1R nz
 rw [w64 (n:=(q.length:Int) - 1) (by omega) (by omega)]
 have h:=Z2 (step:=kN (fun x2=>some x2) (fun x3=>some (-1:Int))) (fun u:kM=>(u.2.2.1+1).toNat) (fun u=> ∃ n:Nat,n≤q.length∧u=(blk,age,(n:Int) - 1,q,t)) (fun u=>some (qc q (kG blk age) (u.2.2.1+1).toNat)) ?_ (blk,age,(q.length:Int) - 1,q,t) ⟨q.length,by omega,rfl⟩ (by simp;omega)
 ·rw [h]
  simp only
  rw [show ((q.length:Int) - 1+1).toNat=q.length by omega]
 ·rintro again u ⟨n,hn,rfl⟩ hag
  unfold kN jA nz
  cases n with
  |zero=>simp [qc]
  |succ n=>
   have e1:((n+1:Nat):Int) - 1=(n:Int):=by omega
   have hw:Go.IntKind.wrap .i64 ((n:Int) - 1)=(n:Int) - 1:=w64 (by omega) (by omega)
   have hx:zB q (n:Int)=q.getD n 0:=rfl
   have h0:0≤(n:Int):=by omega
   have h1:(n:Int)<(q.length:Int):=by omega
   rw [e1]
   simp only [ae,ac,ge_iff_le,h0,h1,aB,aa,hw,hx]
   have e:=hag (blk,age,(n:Int) - 1,q,t) ⟨n,by omega,rfl⟩ (by simp only;omega)
   rw [e]
   simp only
   rw [show ((n:Int) - 1+1).toNat=n by omega,show ((n:Int)+1).toNat=n+1 by omega,qc]
   unfold kG
   split<;>rfl
abbrev Ans:Type:=Int×Int×Int×Int×Int×Bool
def ydY:Ans:=(0,0,0,0,0,false)
def atP (blk age:Int) (a:y8):Bool:=a.1==blk&&a.2.1==age
def ydZ (a:y8):Ans:=(a.1,a.2.1,a.2.2.1,a.2.2.2.1,a.2.2.2.2,true)
def y0g (l:List y8) (blk age:Int):Ans:=if YD (atP blk age) l 0<0 then ydY else ydZ (yi l (YD (atP blk age) l 0))
theorem y53 (l:List y8) (blk age:Int) (hl:l.length≤1073741824):K2 (l,blk,age)=some (y0g l blk age):=by
 unfold K2 y3K y0g nz
 refine (Yr (step:=kh _ _) (fun i=>(l,blk,age,i,0,0,0,0,0)) (atP blk age) (fun i=>some (ydZ (yi l i))) (some ydY) yX l (by omega) ?_ ?_).trans ?_
 ·intro again i h0 h1
  have hw:Go.IntKind.wrap .i64 (i+1)=i+1:=w64 (by omega) (by omega)
  unfold kh atP ydZ nz
  obtain ⟨⟨x1,x2,x3,x4,x5⟩,hx⟩: ∃ x,yi l i=x:=⟨_,rfl⟩
  have hx':l.getD i.toNat yX=(x1,x2,x3,x4,x5):=hx
  rw [hx']
  simp only [ae,ac,h0,h1,aB,hw,hx]
  cases (x1==blk)<;>cases (x2==age)<;>rfl
 ·intro again i hi
  unfold kh nz
  simp only [ae,ac,am hi]
  rfl
 ·split<;>rfl
theorem y54 (l:List y8) (blk age:Int) (hl:l.length≤1073741824):K5 (l,blk,age)=some (y0g l blk age):=by
 unfold K5 y3N y0g nz
 refine (Yr (step:=ko _ _) (fun i=>(blk,age,l,(l.length:Int),i,0,0,0,0,0)) (atP blk age) (fun i=>some (ydZ (yi l i))) (some ydY) yX l (by omega) ?_ ?_).trans ?_
 ·intro again i h0 h1
  have hw:Go.IntKind.wrap .i64 (i+1)=i+1:=w64 (by omega) (by omega)
  unfold ko atP ydZ nz
  obtain ⟨⟨x1,x2,x3,x4,x5⟩,hx⟩: ∃ x,yi l i=x:=⟨_,rfl⟩
  have hx':l.getD i.toNat yX=(x1,x2,x3,x4,x5):=hx
  rw [hx']
  simp only [ae,ac,h0,h1,aB,hw,hx]
  cases (x1==blk)<;>cases (x2==age)<;>rfl
 ·intro again i hi
  unfold ko nz
  simp only [ae,ac,am hi]
  rfl
 ·split<;>rfl
def y0h (n:List ya) (blk age:Int):Nat→Ans
 |0=>ydY
 |m+1=>if (y0g (n.getD m zk) blk age).2.2.2.2.2=true then (if ((y0g (n.getD m zk) blk age).2.2.1==0)=true then ydY else y0g (n.getD m zk) blk age) else y0h n blk age m
theorem y8G (n:List ya) (blk age:Int) (hn:n.length≤1048576) (hs: ∀ s∈n,List.length s≤1073741824):Kt (n,blk,age)=some (y0h n blk age n.length):=by
 unfold Kt y2p nz
 rw [w64 (n:=(n.length:Int) - 1) (by omega) (by omega)]
 refine (Z2 (step:=Kr _ _) (fun u:Kq=>(u.2.2.1+1).toNat) (fun u=> ∃ m:Nat,m≤n.length∧u=(blk,age,(m:Int) - 1,n,0,0,0,0,0)) (fun u=>some (y0h n blk age (u.2.2.1+1).toNat)) ?_ (blk,age,(n.length:Int) - 1,n,0,0,0,0,0) ⟨n.length,by omega,rfl⟩ (by simp;omega)).trans ?_
 ·rintro again u ⟨m,hm,rfl⟩ hag
  unfold Kr nz
  cases m with
  |zero=>rfl
  |succ m=>
   have e1:((m+1:Nat):Int) - 1=(m:Int):=by omega
   have hw:Go.IntKind.wrap .i64 ((m:Int) - 1)=(m:Int) - 1:=w64 (by omega) (by omega)
   have h0:0≤(m:Int):=by omega
   have h1:(m:Int)<(n.length:Int):=by omega
   have e:=y53 (yu n (m:Int)) blk age (hs _ (z5 zk n (m:Int) h0 h1))
   have hx:n.getD m zk=yu n (m:Int):=rfl
   rw [e1]
   simp only [ae,ac,ge_iff_le,h0,h1,aB,aa,hw,e]
   have e':=hag (blk,age,(m:Int) - 1,n,0,0,0,0,0) ⟨m,by omega,rfl⟩ (by simp only;omega)
   rw [e',show ((m:Int)+1).toNat=m+1 by omega,y0h,hx]
   simp only
   rw [show ((m:Int) - 1+1).toNat=m by omega]
   obtain ⟨r1,r2,r3,r4,r5,r6⟩:=y0g (yu n (m:Int)) blk age
   cases r6
   ·rfl
   ·cases h3:(r3==0)<;>simp [h3,ydY]
 ·simp only
  rw [show ((n.length:Int) - 1+1).toNat=n.length by omega]
theorem y8H (n:List ya) (blk age:Int) (hn:n.length≤1048576) (hs: ∀ s∈n,List.length s≤1073741824):vm (n,blk,age)=some (y0h n blk age n.length):=by
 unfold vm y2O nz
 rw [w64 (n:=(n.length:Int) - 1) (by omega) (by omega)]
 refine (Z2 (step:=vk _ _) (fun u:vj=>(u.2.2.1+1).toNat) (fun u=> ∃ m:Nat,m≤n.length∧u=(blk,age,(m:Int) - 1,n,0,0,0,0,0)) (fun u=>some (y0h n blk age (u.2.2.1+1).toNat)) ?_ (blk,age,(n.length:Int) - 1,n,0,0,0,0,0) ⟨n.length,by omega,rfl⟩ (by simp;omega)).trans ?_
 ·rintro again u ⟨m,hm,rfl⟩ hag
  unfold vk nz
  cases m with
  |zero=>rfl
  |succ m=>
   have e1:((m+1:Nat):Int) - 1=(m:Int):=by omega
   have hw:Go.IntKind.wrap .i64 ((m:Int) - 1)=(m:Int) - 1:=w64 (by omega) (by omega)
   have h0:0≤(m:Int):=by omega
   have h1:(m:Int)<(n.length:Int):=by omega
   have e:=y54 (yu n (m:Int)) blk age (hs _ (z5 zk n (m:Int) h0 h1))
   have hx:n.getD m zk=yu n (m:Int):=rfl
   rw [e1]
   simp only [ae,ac,ge_iff_le,h0,h1,aB,aa,hw,e]
   have e':=hag (blk,age,(m:Int) - 1,n,0,0,0,0,0) ⟨m,by omega,rfl⟩ (by simp only;omega)
   rw [e',show ((m:Int)+1).toNat=m+1 by omega,y0h,hx]
   simp only
   rw [show ((m:Int) - 1+1).toNat=m by omega]
   obtain ⟨r1,r2,r3,r4,r5,r6⟩:=y0g (yu n (m:Int)) blk age
   cases r6
   ·rfl
   ·cases h3:(r3==0)<;>simp [h3,ydY]
 ·simp only
  rw [show ((n.length:Int) - 1+1).toNat=n.length by omega]
def jV (q:List Int) (t:List y0) (blk age:Int):Ans:=
 if inR (qc q (kG blk age) q.length) 0 ((t.length:Int) - 1)=true then y0h (yk t (qc q (kG blk age) q.length)) blk age (yk t (qc q (kG blk age) q.length)).length else ydY
theorem wA (q:List Int) (t:List y0) (blk age:Int) (ht:TOk t) (hq:q.length≤1048576):JG (q,t,blk,age)=some (jV q t blk age):=by
 unfold JG jV nz
 have hlen:=ht.len
 rw [w64 (n:=(t.length:Int) - 1) (by omega) (by omega)]
 simp only [y34 q t blk age hq,YP,aa]
 generalize qc q (kG blk age) q.length=i
 by_cases h:inR i 0 ((t.length:Int) - 1)=true
 ·obtain ⟨h0,h1⟩:=zX.1 h
  have hmem:yk t i∈t:=z5 yH t i h0 (by omega)
  obtain ⟨a1,a2⟩:=ht.node hmem
  have e:=y8G (yk t i) blk age a1 (fun s hs=>by have:=a2 s hs;omega)
  rw [h,af h0,af (by omega),e]
  rfl
 ·have:inR i 0 ((t.length:Int) - 1)=false:=by simpa using h
  rw [this]
  rfl
theorem VJ (q:List Int) (t:List y0) (blk age:Int) (ht:TOk t) (hq:q.length≤1048576):JL (q,t,blk,age)=some (jV q t blk age):=by
 unfold JL jV nz
 have hlen:=ht.len
 rw [w64 (n:=(t.length:Int) - 1) (by omega) (by omega)]
 simp only [y35 q t blk age hq,Yd,aa]
 generalize qc q (kG blk age) q.length=i
 by_cases h:inR i 0 ((t.length:Int) - 1)=true
 ·obtain ⟨h0,h1⟩:=zX.1 h
  have hmem:yk t i∈t:=z5 yH t i h0 (by omega)
  obtain ⟨a1,a2⟩:=ht.node hmem
  have e:=y8H (yk t i) blk age a1 (fun s hs=>by have:=a2 s hs;omega)
  rw [h,af h0,af (by omega),e]
  rfl
 ·have:inR i 0 ((t.length:Int) - 1)=false:=by simpa using h
  rw [this]
  rfl
end Go.Proofs.YtekbnpmmjciloaaGreat.Pl
namespace Go.Proofs.YtekbnpmmjciloaaGreat.Pl
open Go.Proofs.YtekbnpmmjciloaaGreat.R Go.Proofs.YtekbnpmmjciloaaGreat.XA
structure NS (n:List ya):Prop where
 len:n.length≤1000
 sum:K7 QX n≤1000
theorem NS.mem {n:List ya} (h:NS n) {s:ya} (hs:s∈n):List.length s≤1000:=by
 have h1:=(y3k Vu hs).1
 have h2:=h.sum
 have h3:QX s=(List.length s:Int):=rfl
 omega
theorem NS.q {n:List ya} (h:NS n):y6z n:=⟨aO h.len (by decide),fun b hb=>aO (h.mem hb) (by decide)⟩
theorem NS.keys {n:List ya} (h:NS n):(zo n).length≤1000:=by
 have h1:=QR n
 have h2:=h.sum
 omega
def vH (n:List ya):ya:=n.getD (n.length - 1) zk
theorem ye0 {n:List ya} (h:0<n.length):vH n∈n:=by
 unfold vH
 rw [y32 _ _ _ (by omega)]
 exact cR _
def vJ (n:List ya) (k:y8):List ya:=
 if 0<n.length∧(List.length (vH n)<4∨(y0g (vH n) k.1 k.2.1).2.2.2.2.2=true) then n.set (n.length - 1) (WV (vH n) k) else n++[[k]]
def wE (n:List ya) (k:y8):List y8:=y7X (WV (zo n) k)
def zV (n:List ya) (k:y8):List ya×Bool:=
 if Zu (vJ n k)=true then (vJ n k,true) else if (wE n k).length>8 then (n,false) else if Zu (zU (wE n k))=true then (zU (wE n k),true) else (n,false)
theorem ykC (l:List y8):(y7X l).length≤l.length:=by
 have:=y7Y l []
 simpa [y7X] using this
theorem y55 (n:List ya) (k:y8):(wE n k).length≤(zo n).length+1:=by
 have h1:=ykC (WV (zo n) k)
 have h2:=WQ (zo n) k
 unfold wE
 omega
theorem Jt (l:List y8) (h:l.length≤1048576):za l=some (zU l):=by
 unfold za zU nz
 by_cases h0:l.length=0
 ·rw [af h0,show (((List.length l:Nat):Int)==0)=true from bJ.2 (by omega)]
  rfl
 ·rw [am h0,show (((List.length l:Nat):Int)==0)=false from bj.2 (by omega),ag,af (by simp only [aj];omega)]
  rfl
theorem Wv (l:List y8) (h:l.length≤1048576):zG l=some (zU l):=by
 unfold zG zU nz
 by_cases h0:l.length=0
 ·rw [af h0,show (((List.length l:Nat):Int)==0)=true from bJ.2 (by omega)]
  rfl
 ·rw [am h0,show (((List.length l:Nat):Int)==0)=false from bj.2 (by omega),ag,qv l h]
  rfl
theorem y19 {l:List y8} (h:l.length≤1000):NS (zU l):=by
 unfold zU
 split
 ·exact ⟨by simp,by simp [K7]⟩
 ·exact ⟨by simp,by simp [K7,QX];omega⟩
theorem y8b (l:List y8):(zU l).length≤1∧K7 QX (zU l)≤l.length:=by
 unfold zU
 split
 ·exact ⟨by simp,by simp [K7]⟩
 ·exact ⟨by simp,by simp [K7,QX]⟩
theorem ytw {n:List ya} (i:Nat) (s:ya) (hi:i<n.length):K7 QX (n.set i s)=K7 QX n - QX (n.getD i zk)+QX s:=by
 induction n generalizing i with
 |nil=>simp at hi
 |cons a n ih=>
  cases i with
  |zero=>
   rw [List.set_cons_zero,Z3,Z3]
   simp
   omega
  |succ i=>
   rw [List.set_cons_succ,Z3,Z3,ih i (by simpa using hi),b9]
   omega
theorem y56 {A:Type} (w:A→Int) (l:List A) (a:A):K7 w (l++[a])=K7 w l+w a:=by
 induction l with
 |nil=>simp [K7]
 |cons b l ih=>
  rw [bp,Z3,Z3,ih]
  omega
theorem y5H (n:List ya) (k:y8):(vJ n k).length≤n.length+1∧K7 QX (vJ n k)≤K7 QX n+1:=by
 unfold vJ
 split
 ·rename_i h
  have h1:=WQ (vH n) k
  have h2:QX (WV (vH n) k)≤QX (vH n)+1:=by
   unfold QX
   have:List.length (WV (vH n) k)≤List.length (vH n)+1:=h1
   omega
  rw [aG,ytw _ _ (by omega)]
  have e:n.getD (n.length - 1) zk=vH n:=rfl
  rw [e]
  constructor<;>omega
 ·rw [y56,ar]
  have e:QX [k]=1:=rfl
  rw [e]
  exact ⟨aS _,aH _⟩
theorem NS.small {n:List ya} (h1:n.length≤1001) (h2:K7 QX n≤1001):n.length≤1073741824∧ ∀ s∈n,List.length s≤1073741824:=by
 refine ⟨by omega,fun s hs=> ?_⟩
 have h3:=(y3k Vu hs).1
 have h4:QX s=(List.length s:Int):=rfl
 omega
section
variable (n:List ya) (a b c d e:Int) (h:NS n)
include h
theorem y36:ZJ (n,a,b,c,d,e)=some (zV n (a,b,c,d,e)):=by
 have hk:=h.keys
 have hl:=h.len
 have hs:=h.sum
 have hW:=y55 n (a,b,c,d,e)
 have hN:=y8b (wE n (a,b,c,d,e))
 have hN2:=NS.small (n:=zU (wE n (a,b,c,d,e))) (by omega) (by omega)
 have hO:=y5H n (a,b,c,d,e)
 have hO2:=NS.small (n:=vJ n (a,b,c,d,e)) (by omega) (by omega)
 have hw:Go.IntKind.wrap .i64 ((n.length:Int) - 1)=(n.length:Int) - 1:=w64 (by omega) (by omega)
 have hT: ∀ out,out=vJ n (a,b,c,d,e)→(Option.bind (zL out) fun r6=>bif r6 then some (out,true) else Option.bind (yI n) fun r7=>Option.bind (zT (r7,a,b,c,d,e)) fun r8=>Option.bind (YG r8) fun r9=>bif (decide (((List.length r9:Nat):Int)>(8:Int))) then some (n,false) else Option.bind (za r9) fun r11=>Option.bind (zL r11) fun r12=>bif (!r12) then some (n,false) else Option.bind (za r9) fun r14=>some (r14,true))=some (zV n (a,b,c,d,e)):=by
  rintro out rfl
  have e1:YG (WV (zo n) (a,b,c,d,e))=some (wE n (a,b,c,d,e)):=y2W _ (by have:=WQ (zo n) (a,b,c,d,e);omega)
  simp only [y0v _ hO2.1 hO2.2,jj n (by omega) (by omega),kD (zo n) a b c d e (by omega),e1,Jt (wE n (a,b,c,d,e)) (by omega),y0v _ hN2.1 hN2.2,aa]
  unfold zV
  cases Zu (vJ n (a,b,c,d,e)) with
  |true=>rfl
  |false=>
   by_cases h8:(wE n (a,b,c,d,e)).length>8
   ·rw [ax (show ((List.length (wE n (a,b,c,d,e)):Nat):Int)>8 by omega),af h8]
    rfl
   ·rw [aw (show ¬ ((List.length (wE n (a,b,c,d,e)):Nat):Int)>8 by omega),am h8]
    cases Zu (zU (wE n (a,b,c,d,e)))<;>rfl
 unfold ZJ nz
 simp only [y0A n h.q,aa,hw]
 by_cases h0:n.length=0
 ·have e1: ¬ (0<n.length∧(List.length (vH n)<4∨(y0g (vH n) a b).2.2.2.2.2=true)):=fun hh=>by omega
  simp only [aw (show ¬ ((n.length:Int) - 1≥0) by omega),ag,aa]
  rw [af (by simp only [ah,aj];omega)]
  exact hT _ (by unfold vJ;rw [am e1])
 ·have i0:0≤(n.length:Int) - 1:=by omega
  have i1:(n.length:Int) - 1<((List.length n:Nat):Int):=by omega
  have hlm:=h.mem (ye0 (n:=n) (by omega))
  have erd:yu n ((n.length:Int) - 1)=vH n:=by
   show n.getD ((n.length:Int) - 1).toNat zk=n.getD (n.length - 1) zk
   congr 1
   omega
  have etn:((n.length:Int) - 1).toNat=n.length - 1:=by omega
  rw [ax (show (n.length:Int) - 1≥0 from i0)]
  simp only [ai,i0,i1,aB,erd,etn,y53 (vH n) a b (by omega),kD (vH n) a b c d e (by omega),aa]
  by_cases h4:List.length (vH n)<4
  ·rw [ax (show ((List.length (vH n):Nat):Int)<4 by omega)]
   exact hT _ (by unfold vJ;rw [af ⟨by omega,.inl h4⟩])
  ·rw [aw (show ¬ ((List.length (vH n):Nat):Int)<4 by omega)]
   cases hA:(y0g (vH n) a b).2.2.2.2.2 with
   |true=>exact hT _ (by unfold vJ;rw [af ⟨by omega,.inr hA⟩])
   |false=>
    simp only [ag,aa]
    rw [af (by simp only [ah,aj];omega)]
    exact hT _ (by
     unfold vJ
     rw [am fun hh=> ?_]
     rcases hh.2 with hh|hh
     ·exact h4 hh
     ·rw [hA] at hh
      cases hh)
theorem y1W:Yo (n,a,b,c,d,e)=some (wE n (a,b,c,d,e)):=by
 have hk:=h.keys
 have hl:=h.len
 have hs:=h.sum
 have e1:W9 (WV (zo n) (a,b,c,d,e))=some (wE n (a,b,c,d,e)):=y65 _ (by have:=WQ (zo n) (a,b,c,d,e);omega)
 unfold Yo nz
 simp only [wo n (by omega) (by omega),y0u (zo n) a b c d e (by omega),e1,aa]
theorem y8c:kp (n,a,b,c,d,e)=some (zV n (a,b,c,d,e)):=by
 have hk:=h.keys
 have hl:=h.len
 have hs:=h.sum
 have hW:=y55 n (a,b,c,d,e)
 have hN:=y8b (wE n (a,b,c,d,e))
 have hN2:=NS.small (n:=zU (wE n (a,b,c,d,e))) (by omega) (by omega)
 have hO:=y5H n (a,b,c,d,e)
 have hO2:=NS.small (n:=vJ n (a,b,c,d,e)) (by omega) (by omega)
 have hw:Go.IntKind.wrap .i64 ((n.length:Int) - 1)=(n.length:Int) - 1:=w64 (by omega) (by omega)
 have hT: ∀ out,out=vJ n (a,b,c,d,e)→(Option.bind (Y9 out) fun r5=>bif r5 then some (out,true) else Option.bind (Yo (n,a,b,c,d,e)) fun r6=>Option.bind (zG r6) fun r7=>Option.bind (bif (decide (((List.length r6:Nat):Int)>(8:Int))) then some true else Option.bind (Y9 r7) fun r9=>some (!r9)) fun u8=>bif u8 then some (n,false) else some (r7,true))=some (zV n (a,b,c,d,e)):=by
  rintro out rfl
  simp only [y0w _ hO2.1 hO2.2,y1W n a b c d e h,Wv (wE n (a,b,c,d,e)) (by omega),y0w _ hN2.1 hN2.2,aa]
  unfold zV
  cases Zu (vJ n (a,b,c,d,e)) with
  |true=>rfl
  |false=>
   by_cases h8:(wE n (a,b,c,d,e)).length>8
   ·rw [ax (show ((List.length (wE n (a,b,c,d,e)):Nat):Int)>8 by omega),af h8]
    rfl
   ·rw [aw (show ¬ ((List.length (wE n (a,b,c,d,e)):Nat):Int)>8 by omega),am h8]
    cases Zu (zU (wE n (a,b,c,d,e)))<;>rfl
 unfold kp nz
 simp only [qw n h.q,aa,hw]
 by_cases h0:n.length=0
 ·have e1: ¬ (0<n.length∧(List.length (vH n)<4∨(y0g (vH n) a b).2.2.2.2.2=true)):=fun hh=>by omega
  simp only [aw (show ¬ ((n.length:Int) - 1≥0) by omega),ag,aa]
  rw [af (by simp only [ah,aj];omega)]
  exact hT _ (by unfold vJ;rw [am e1])
 ·have i0:0≤(n.length:Int) - 1:=by omega
  have i1:(n.length:Int) - 1<((List.length n:Nat):Int):=by omega
  have hlm:=h.mem (ye0 (n:=n) (by omega))
  have erd:yu n ((n.length:Int) - 1)=vH n:=by
   show n.getD ((n.length:Int) - 1).toNat zk=n.getD (n.length - 1) zk
   congr 1
   omega
  have etn:((n.length:Int) - 1).toNat=n.length - 1:=by omega
  rw [ax (show (n.length:Int) - 1≥0 from i0)]
  simp only [ai,i0,i1,aB,erd,etn,y54 (vH n) a b (by omega),y0u (vH n) a b c d e (by omega),aa]
  cases hA:(y0g (vH n) a b).2.2.2.2.2 with
  |true=>exact hT _ (by unfold vJ;rw [af ⟨by omega,.inr hA⟩])
  |false=>
   by_cases h4:List.length (vH n)<4
   ·rw [ax (show ((List.length (vH n):Nat):Int)<4 by omega)]
    exact hT _ (by unfold vJ;rw [af ⟨by omega,.inl h4⟩])
   ·rw [aw (show ¬ ((List.length (vH n):Nat):Int)<4 by omega)]
    simp only [ag,aa]
    rw [af (by simp only [ah,aj];omega)]
    exact hT _ (by
     unfold vJ
     rw [am fun hh=> ?_]
     rcases hh.2 with hh|hh
     ·exact h4 hh
     ·rw [hA] at hh
      cases hh)
end
end Go.Proofs.YtekbnpmmjciloaaGreat.Pl
namespace Go.Proofs.YtekbnpmmjciloaaGreat.Pl
open Go.Proofs.YtekbnpmmjciloaaGreat.R Go.Proofs.YtekbnpmmjciloaaGreat.XA
structure TS (t:List y0):Prop where
 len:t.length≤100
 node: ∀ n∈t,NS n
theorem TS.ok {t:List y0} (h:TS t):TOk t:=by
 have hl:=h.len
 refine ⟨by omega,fun n hn=>aO (h.node n hn).len (by decide),?_⟩
 have hb: ∀ (t:List y0),(∀ n∈t,NS n)→K7 y22 t≤2000*t.length:=by
  intro t
  induction t with
  |nil=>intro _;simp [K7]
  |cons a t ih=>
   intro hn
   have h1:=ih fun n h=>hn n (by simp [h])
   have h2:=hn a (by simp)
   have h3:y22 a=(List.length a:Int)+K7 QX a:=rfl
   have h4:List.length a≤1000:=h2.len
   have h5:K7 QX a≤1000:=h2.sum
   rw [Z3,ah]
   omega
 have:=hb t h.node
 omega
def Y2 {A:Type} (l:List A) (i c:Nat) (m:List A):List A:=l.take i++m++l.drop (i+c)
theorem WS {A:Type} (l:List A) (i c:Nat) (m:List A) (h:i+c≤l.length):(Y2 l i c m).length=l.length+m.length - c:=by
 unfold Y2
 simp only [ar,ak,aC]
 omega
theorem yih {A:Type} {l:List A} {i c:Nat} {m:List A} {x:A} (h:x∈Y2 l i c m):x∈l∨x∈m:=by
 unfold Y2 at h
 rcases aF.1 h with h|h
 ·rcases aF.1 h with h|h
  ·exact .inl (a0 h)
  ·exact .inr h
 ·exact .inl (a_ h)
theorem y9A {A:Type} (l:List A) (i:Nat) (x:A) (h:i<l.length):Y2 l i 1 [x]=l.set i x:=by
 unfold Y2
 rw [List.set_eq_take_append_cons_drop,af h]
 simp
theorem yii {A:Type} (d:A) (l:List A) (i:Nat) (h:i+2≤l.length):Y2 l i 2 [l.getD i d]=l.take (i+1)++l.drop (i+2):=by
 unfold Y2
 rw [y32 _ _ _ (by omega),List.take_succ_eq_append_getElem (by omega)]
theorem TS.splice {t:List y0} (h:TS t) {i c:Nat} {m:List y0} (hl:(Y2 t i c m).length≤100) (hm: ∀ n∈m,NS n):TS (Y2 t i c m):=
 ⟨hl,fun n hn=>(yih hn).elim (h.node n) (hm n)⟩
theorem y1C (q:List Int) (t:List y0) (i:Int) (ql:List Int) (tl:List y0) (h0:0≤i) (h1:i<(q.length:Int)) (h2:i<(t.length:Int)) (hq:q.length≤1000) (ht:t.length≤1000) (hql:ql.length≤1000) (htl:tl.length≤1000):
  wZ (q,t,i,ql,tl)=some (Y2 q i.toNat 1 ql,Y2 t i.toNat 1 tl):=by
 have hw:Go.IntKind.wrap .i64 (i+1)=i+1:=w64 (by omega) (by omega)
 have e1:(i+1).toNat=i.toNat+1:=by omega
 unfold wZ nz
 simp only [hw]
 iterate 18 rw [af (by first|omega|(simp only [ar,aC,ak,aj];omega))]
 simp [Y2,e1]
theorem qy (q:List Int) (t:List y0) (i c:Int) (ql:List Int) (tl:List y0) (h0:0≤i) (hc:0≤c) (h1:i+c≤(q.length:Int)) (h2:i+c≤(t.length:Int)) (hq:q.length≤1000) (ht:t.length≤1000) (hql:ql.length≤1000) (htl:tl.length≤1000):
  YL (q,t,i,c,ql,tl)=some (Y2 q i.toNat c.toNat ql,Y2 t i.toNat c.toNat tl):=by
 have hw:Go.IntKind.wrap .i64 (i+c)=i+c:=w64 (by omega) (by omega)
 have e1:(i+c).toNat=i.toNat+c.toNat:=by omega
 have e2:List.drop (Int.toNat 0) (List.take (Int.toNat i) q)=q.take i.toNat:=rfl
 unfold YL nz
 simp only [hw]
 iterate 3 rw [af (by omega)]
 rw [e2,ws _ (by rw [ak];omega)]
 simp only [aa]
 iterate 14 rw [af (by first|omega|(simp only [ar,aC,ak,aj];omega))]
 simp [Y2,e1]
def zx:List y0→Int→Int
 |a::b::r,i=>if (zo a).length+(zo b).length≤6 then i else zx (b::r) (i+1)
 |_,_=> -1
theorem y8d (l:List y0) (i:Int) (h:l.length≤1):zx l i= -1:=by
 match l,h with
 |[],_=>rfl
 |[_],_=>rfl
theorem y9B: ∀ (l:List y0) (i:Int),zx l i= -1∨i≤zx l i∧zx l i+2≤i+l.length∧(zo (l.getD (zx l i - i).toNat yH)).length+(zo (l.getD (zx l i - i+1).toNat yH)).length≤6
 |[],_=> .inl rfl
 |[_],_=> .inl rfl
 |a::b::r,i=>by
  rw [zx]
  by_cases h:(zo a).length+(zo b).length≤6
  ·rw [af h]
   refine .inr ⟨aH _,by simp only [ah];omega,?_⟩
   rw [show (i - i).toNat=0 by omega,show (i - i+1).toNat=1 by omega]
   exact h
  ·rw [am h]
   rcases y9B (b::r) (i+1) with h1|⟨h1,h2,h3⟩
   ·exact .inl h1
   ·refine .inr ⟨by omega,by simp only [ah] at h2 ⊢;omega,?_⟩
    rw [show (zx (b::r) (i+1) - i).toNat=(zx (b::r) (i+1) - (i+1)).toNat+1 by omega,show (zx (b::r) (i+1) - i+1).toNat=(zx (b::r) (i+1) - (i+1)+1).toNat+1 by omega,b9,b9]
    exact h3
theorem yhe (t:List y0) (i:Int) (h0:0≤i) (h1:i+1<(t.length:Int)):zx (t.drop i.toNat) i=if (zo (yk t i)).length+(zo (yk t (i+1))).length≤6 then i else zx (t.drop (i+1).toNat) (i+1):=by
 rw [Jr yH t i h0 (by omega),Jr yH t (i+1) (by omega) h1,zx]
 rfl
theorem nk {t:List y0} (h:TS t) {i:Int} (h0:0≤i) (h1:i<(t.length:Int)):NS (yk t i):=h.node _ (z5 yH t i h0 h1)
theorem Vv {t:List y0} (h:TS t) {i:Int} (h0:0≤i) (h1:i<(t.length:Int)):yI (yk t i)=some (zo (yk t i)):=by
 have hn:=nk h h0 h1
 exact jj _ (aO hn.len (by decide)) (cv hn.sum (by decide))
theorem y4k {t:List y0} (h:TS t) {i:Int} (h0:0≤i) (h1:i<(t.length:Int)):yZ (yk t i)=some (zo (yk t i)):=by
 have hn:=nk h h0 h1
 exact wo _ (aO hn.len (by decide)) (cv hn.sum (by decide))
theorem y68 (q:List Int) (t:List y0) (h:TS t):WE (q,t)=some (zx t 0):=by
 have hl:=h.len
 unfold WE y2q nz
 refine Z2 (step:=Ku _ _) (fun x:Int×List Int×List y0=>t.length - x.1.toNat) (fun x=>x.2.2=t∧0≤x.1∧x.1≤(t.length:Int)) (fun x=>some (zx (t.drop x.1.toNat) x.1)) ?_ (0,q,t) ⟨rfl,aH _,by simp⟩ (by simp;omega)
 rintro again ⟨i,q',t'⟩ ⟨rfl,i0,i1⟩ hag
 simp only at i0 i1 hl h ⊢
 unfold Ku nz
 by_cases hi:i+1<(t'.length:Int)
 ·have hw:Go.IntKind.wrap .i64 (i+1)=i+1:=w64 (by omega) (by omega)
  have k1:=nk h i0 (show i<(t'.length:Int) by omega)
  have k2:=nk h (show 0≤i+1 by omega) hi
  have hw2:Go.IntKind.wrap .i64 (((List.length (zo (yk t' i)):Nat):Int)+((List.length (zo (yk t' (i+1))):Nat):Int))=((List.length (zo (yk t' i)):Nat):Int)+((List.length (zo (yk t' (i+1))):Nat):Int):=w64 (by omega) (by have:=k1.keys;have:=k2.keys;omega)
  simp only [hw,Vv h i0 (show i<(t'.length:Int) by omega),Vv h (show 0≤i+1 by omega) hi,aa,hw2]
  rw [ax hi,ai,af i0,af (by omega),af (by omega),af hi,yhe t' i i0 hi]
  by_cases h6:(zo (yk t' i)).length+(zo (yk t' (i+1))).length≤6
  ·rw [ax (show ((List.length (zo (yk t' i)):Nat):Int)+((List.length (zo (yk t' (i+1))):Nat):Int)≤6 by omega),af h6]
   rfl
  ·rw [aw (show ¬ ((List.length (zo (yk t' i)):Nat):Int)+((List.length (zo (yk t' (i+1))):Nat):Int)≤6 by omega),am h6]
   exact hag _ ⟨rfl,by simp only;omega,by simp only;omega⟩ (by simp only;omega)
 ·have hw: ¬ Go.IntKind.wrap .i64 (i+1)<(t'.length:Int):=by
   rw [w64 (by omega) (by omega)]
   exact hi
  rw [aw hw,y8d _ _ (by rw [aC];omega)]
  rfl
def kV:Nat→List Int→List y0→List Int×List y0
 |0,q,t=>(q,t)
 |m+1,q,t=>if zx t 0<0 then (q,t) else kV m (Y2 q (zx t 0).toNat 2 [q.getD (zx t 0).toNat 0]) (Y2 t (zx t 0).toNat 2 [zU (zo (t.getD (zx t 0).toNat yH)++zo (t.getD (zx t 0+1).toNat yH))])
section
variable {q:List Int} {t:List y0} (h:TS t) (hq:q.length=t.length) (hp: ¬ zx t 0<0)
include h hp
omit h in
theorem ycm:0≤zx t 0∧zx t 0+2≤(t.length:Int)∧(zo (yk t (zx t 0))).length+(zo (yk t (zx t 0+1))).length≤6:=by
 rcases y9B t 0 with h1|⟨h1,h2,h3⟩
 ·omega
 ·refine ⟨h1,by omega,?_⟩
  rw [cK] at h3
  exact h3
theorem yfT:TS (Y2 t (zx t 0).toNat 2 [zU (zo (yk t (zx t 0))++zo (yk t (zx t 0+1)))]):=by
 obtain ⟨h1,h2,h3⟩:=ycm hp
 have hl:=h.len
 refine h.splice (by rw [WS _ _ _ _ (by omega)];simp only [ah,aj];omega) fun n hn=> ?_
 obtain rfl:=aW.1 hn
 exact y19 (by rw [ar];omega)
include hq
theorem yhf:(Y2 t (zx t 0).toNat 2 [zU (zo (yk t (zx t 0))++zo (yk t (zx t 0+1)))]).length=t.length - 1∧(Y2 q (zx t 0).toNat 2 [q.getD (zx t 0).toNat 0]).length=t.length - 1:=by
 obtain ⟨h1,h2,h3⟩:=ycm hp
 rw [WS _ _ _ _ (by omega),WS _ _ _ _ (by omega)]
 simp only [ah,aj]
 omega
theorem y9C:kV t.length q t=kV (t.length - 1) (Y2 q (zx t 0).toNat 2 [q.getD (zx t 0).toNat 0]) (Y2 t (zx t 0).toNat 2 [zU (zo (yk t (zx t 0))++zo (yk t (zx t 0+1)))]):=by
 obtain ⟨h1,h2,h3⟩:=ycm hp
 rw [show t.length=(t.length - 1)+1 by omega,kV,am hp]
 rfl
end
theorem ye1 {q:List Int} {t:List y0} (m:Nat) (hp:zx t 0<0):kV m q t=(q,t):=by
 cases m with
 |zero=>rfl
 |succ m=>rw [kV,af hp]
theorem ye2 (q:List Int) (t:List y0) (h:TS t) (hq:q.length=t.length):jv (q,t)=some (kV t.length q t):=by
 have hl:=h.len
 unfold jv y2r nz
 simp only [y68 q t h,aa]
 refine Z2 (step:=Kv _) (fun x:Int×List Int×List y0=>x.2.2.length) (fun x=>TS x.2.2∧x.2.1.length=x.2.2.length∧x.1=zx x.2.2 0) (fun x=>some (kV x.2.2.length x.2.1 x.2.2)) ?_ (zx t 0,q,t) ⟨h,hq,rfl⟩ (by simp only;omega)
 rintro again ⟨i,q,t⟩ ⟨h,hq,hi⟩ hag
 simp only at h hq hi ⊢
 subst hi
 have hl:=h.len
 unfold Kv nz
 by_cases hp:zx t 0<0
 ·rw [aw (show ¬ zx t 0≥0 by omega),ye1 _ hp]
  rfl
 ·obtain ⟨h1,h2,h3⟩:=ycm hp
  have hw:Go.IntKind.wrap .i64 (zx t 0+1)=zx t 0+1:=w64 (by omega) (by omega)
  have hw2:Go.IntKind.wrap .i64 (zx t 0+2)=zx t 0+2:=w64 (by omega) (by omega)
  have hT:=yfT h hp
  have hL:=yhf h hq hp
  have eq1:([]++List.drop (Int.toNat 0) (List.take (Int.toNat (zx t 0+1)) q))++List.drop (Int.toNat (zx t 0+2)) (List.take (Int.toNat (q.length:Int)) q)=Y2 q (zx t 0).toNat 2 [q.getD (zx t 0).toNat 0]:=by
   rw [yii 0 q _ (by omega),show (zx t 0+1).toNat=(zx t 0).toNat+1 by omega,show (zx t 0+2).toNat=(zx t 0).toNat+2 by omega]
   simp
  have eq2: ∀ n:y0,(([]++List.drop (Int.toNat 0) (List.take (Int.toNat (zx t 0)) t))++[n])++List.drop (Int.toNat (zx t 0+2)) (List.take (Int.toNat (t.length:Int)) t)=Y2 t (zx t 0).toNat 2 [n]:=fun n=>by
   rw [show (zx t 0+2).toNat=(zx t 0).toNat+2 by omega]
   simp [Y2]
  simp only [hw,hw2,Vv h h1 (show zx t 0<(t.length:Int) by omega),Vv h (show 0≤zx t 0+1 by omega) (show zx t 0+1<(t.length:Int) by omega),Jt (zo (yk t (zx t 0))++zo (yk t (zx t 0+1))) (by rw [ar];omega),aa,eq1,eq2,y68 _ _ hT]
  rw [ax (show zx t 0≥0 from h1),ai]
  iterate 22 rw [af (by first|omega|(simp only [ar,aC,ak,aj,ah];omega))]
  rw [y9C h hq hp,← hL.1]
  exact hag (zx (Y2 t (zx t 0).toNat 2 [zU (zo (yk t (zx t 0))++zo (yk t (zx t 0+1)))]) 0,Y2 q (zx t 0).toNat 2 [q.getD (zx t 0).toNat 0],Y2 t (zx t 0).toNat 2 [zU (zo (yk t (zx t 0))++zo (yk t (zx t 0+1)))]) ⟨hT,hL.2.trans hL.1.symm,rfl⟩ (by simp only;omega)
theorem y8I (q:List Int) (t:List y0) (h:TS t) (hq:q.length=t.length):jG (q,t)=some (kV t.length q t):=by
 have hl:=h.len
 unfold jG y2N nz
 have key: ∀ (i:Int) (q:List Int) (t:List y0) (k1 k2:Int×List Int×List y0→Option (List Int×List y0)),TS t→q.length=t.length→0≤i→i≤(t.length:Int)→zx t 0=zx (t.drop i.toNat) i→
   (∀ i' q' t',TS t'→q'.length=t'.length→0≤i'→i'≤(t'.length:Int)→zx t' 0=zx (t'.drop i'.toNat) i'→t'.length*1000+(t'.length - i'.toNat)<t.length*1000+(t.length - i.toNat)→k1 (i',q',t')=some (kV t'.length q' t')∧k2 (i',q',t')=some (kV t'.length q' t'))→
   (bif (decide ((Go.IntKind.wrap .i64 (i+(1:Int)))<((List.length t:Nat):Int))) then if (0:Int)≤i then if i<((List.length t:Nat):Int) then Option.bind (yZ (yk t i)) fun r5=>if (0:Int)≤(Go.IntKind.wrap .i64 (i+(1:Int))) then if (Go.IntKind.wrap .i64 (i+(1:Int)))<((List.length t:Nat):Int) then Option.bind (yZ (yk t (Go.IntKind.wrap .i64 (i+(1:Int))))) fun r6=>if (List.length r5+List.length r6)*40<140737488355328 then bif (decide (((List.length (r5++r6):Nat):Int)≤(6:Int))) then if (0:Int)≤i then if i<((List.length q:Nat):Int) then Option.bind (zG (r5++r6)) fun r7=>Option.bind (YL (q,t,i,(2:Int),([(zB q i)]:List y9),([r7]:List y0))) fun r8=>k1 ((Go.IntKind.wrap .i64 ((-1:Int)+(1:Int))),r8.1,r8.2) else none else none else k2 ((Go.IntKind.wrap .i64 (i+(1:Int))),q,t) else none else none else none else none else none else some (q,t))=some (kV t.length q t):=by
  intro i q t k1 k2 h hq i0 i1 hpi hk
  have hl:=h.len
  have hw:Go.IntKind.wrap .i64 (i+1)=i+1:=w64 (by omega) (by omega)
  have hw0:Go.IntKind.wrap .i64 (-1+1)=0:=rfl
  simp only [hw,hw0]
  by_cases hi:i+1<(t.length:Int)
  ·have g1:=(nk h i0 (show i<(t.length:Int) by omega)).keys
   have g2:=(nk h (show 0≤i+1 by omega) hi).keys
   rw [yhe t i i0 hi] at hpi
   simp only [y4k h i0 (show i<(t.length:Int) by omega),y4k h (show 0≤i+1 by omega) hi,aa]
   rw [ax hi,ai,af i0,af (by omega),af (by omega),af hi,af (by omega)]
   by_cases h6:(zo (yk t i)).length+(zo (yk t (i+1))).length≤6
   ·rw [af h6] at hpi
    subst hpi
    have hp: ¬ zx t 0<0:=by omega
    have hT:=yfT h hp
    have hL:=yhf h hq hp
    rw [ax (show ((List.length (zo (yk t (zx t 0))++zo (yk t (zx t 0+1))):Nat):Int)≤6 by rw [ar];omega),ai,af i0,af (by omega),Wv _ (by rw [ar];omega)]
    simp only [aa]
    rw [qy q t _ 2 _ _ i0 (by decide) (by omega) (by omega) (by omega) (by omega) (by simp) (by simp)]
    simp only [aa]
    rw [y9C h hq hp,← hL.1]
    exact (hk 0 (Y2 q (zx t 0).toNat 2 [q.getD (zx t 0).toNat 0]) (Y2 t (zx t 0).toNat 2 [zU (zo (yk t (zx t 0))++zo (yk t (zx t 0+1)))]) hT (hL.2.trans hL.1.symm) (aH _) (by omega) rfl (by omega)).1
   ·rw [am h6] at hpi
    rw [aw (show ¬ ((List.length (zo (yk t i)++zo (yk t (i+1))):Nat):Int)≤6 by rw [ar];omega),ag]
    exact (hk (i+1) q t h hq (by omega) (by omega) hpi (by omega)).2
  ·rw [y8d (t.drop i.toNat) i (by rw [aC];omega)] at hpi
   rw [aw hi,ye1 _ (by omega)]
   rfl
 refine Z2 (step:=QK _ _) (fun x:(Int×List Int×List y0) ⊕ (Int×List Int×List y0)=>(Sum.elim id id x).2.2.length*1000+((Sum.elim id id x).2.2.length - (Sum.elim id id x).1.toNat)) (fun x=>TS (Sum.elim id id x).2.2∧(Sum.elim id id x).2.1.length=(Sum.elim id id x).2.2.length∧0≤(Sum.elim id id x).1∧(Sum.elim id id x).1≤((Sum.elim id id x).2.2.length:Int)∧zx (Sum.elim id id x).2.2 0=zx ((Sum.elim id id x).2.2.drop (Sum.elim id id x).1.toNat) (Sum.elim id id x).1)
  (fun x=>some (kV (Sum.elim id id x).2.2.length (Sum.elim id id x).2.1 (Sum.elim id id x).2.2)) ?_ (Sum.inl (0,q,t)) ⟨h,hq,aH _,by simp,rfl⟩ (by simp;omega)
 rintro again (⟨i,q,t⟩|⟨i,q,t⟩) ⟨h,hq,i0,i1,hpi⟩ hag
 ·exact key i q t (fun x=>again (Sum.inr x)) (fun x=>again (Sum.inl x)) h hq i0 i1 hpi fun i' q' t' a1 a2 a3 a4 a5 a6=>⟨hag (Sum.inr (i',q',t')) ⟨a1,a2,a3,a4,a5⟩ a6,hag (Sum.inl (i',q',t')) ⟨a1,a2,a3,a4,a5⟩ a6⟩
 ·exact key i q t (fun x=>again (Sum.inr x)) (fun x=>again (Sum.inr x)) h hq i0 i1 hpi fun i' q' t' a1 a2 a3 a4 a5 a6=>⟨hag (Sum.inr (i',q',t')) ⟨a1,a2,a3,a4,a5⟩ a6,hag (Sum.inr (i',q',t')) ⟨a1,a2,a3,a4,a5⟩ a6⟩
end Go.Proofs.YtekbnpmmjciloaaGreat.Pl
namespace Go.Proofs.YtekbnpmmjciloaaGreat.Pl
open Go.Proofs.YtekbnpmmjciloaaGreat.R Go.Proofs.YtekbnpmmjciloaaGreat.XA
theorem yhg: ∀ (n:List ya) (s:Int),0≤s→s+60*n.length≤1000→(∀ a∈n,List.length a≤60)→n.foldl y3T s=s+K7 QX n
 |[],s,_,_,_=>by simp [K7]
 |a::n,s,h0,hb,ha=>by
  have h1:=ha a (by simp)
  rw [ah] at hb
  have hw:y3T s a=s+(List.length a:Int):=w64 (by omega) (by omega)
  have e:QX a=(List.length a:Int):=rfl
  rw [ba,hw,yhg n _ (by omega) (by omega) fun b hm=>ha b (by simp [hm]),Z3,e]
  omega
theorem Ju {n:List ya} (h:Zu n=true):n.length≤3∧K7 QX n≤8∧ ∀ s∈n,∀ k∈(show List y8 from s),WW k=true:=by
 obtain ⟨h1,h2⟩:=y88 h
 have h3:=yhg n 0 (aH _) (by omega) fun a ha=>(yck (h2 a ha)).1
 unfold Zu at h
 simp only [al,ac] at h
 exact ⟨h1,by omega,fun s hs=>(yck (h2 s hs)).2⟩
theorem y57 {n:List ya} (h:Zu n=true):NS n:=⟨by have:=(Ju h).1;omega,by have:=(Ju h).2.1;omega⟩
theorem y1a {q:List Int} {t:List y0} (h:ZG q t=true):TS t:=by
 obtain ⟨h1,h2,h3,h4⟩:=kF h
 exact ⟨by omega,fun n hn=>y57 (h4 n hn)⟩
theorem yfU {q:List Int} {t:List y0} (h:ZG q t=true):q.getD 0 0=0:=by
 unfold ZG at h
 simp only [al,bJ] at h
 exact h.2.2.1
theorem y69 (q:List Int) (sp:Int) (h:q.getD 0 0≤sp): ∀ n,0≤qc q sp (n+1)
 |0=>by
  rw [qc,af h]
  simp
 |n+1=>by
  rw [qc]
  split
  ·omega
  ·exact y69 q sp h n
theorem yn3 {k:y8} (h:WW k=true):0≤kG k.1 k.2.1:=by
 unfold WW at h
 simp only [al,zX] at h
 obtain ⟨h1,h2,_⟩:=h
 unfold kG
 rw [w64 (n:=(64:Int)*k.1) (by omega) (by omega),w64 (by omega) (by omega)]
 omega
theorem yn4 {n:List ya} {k:y8} (hn:Zu n=true) (hk:WW k=true) (h:(zV n k).2=false):8<(wE n k).length:=by
 unfold zV at h
 split at h
 ·cases h
 ·split at h
  ·assumption
  ·rename_i h8
   have hok:Zu (zU (wE n k))=true:=yig (ydU (y9v k (ykz n))) (fun x hx=>by
    rcases y9w (ydV hx) with rfl|hx
    ·exact hk
    ·obtain ⟨c,hc,hx⟩:=ykA hx
     exact (Ju hn).2.2 c hc x hx) (by omega)
   rw [af hok] at h
   cases h
theorem y5I {n:List ya} (k:y8) (h:NS n) (h2:n.length≤900∧K7 QX n≤900):NS (zV n k).1:=by
 have h1:=y5H n k
 have h3:=y55 n k
 have h4:=QR n
 unfold zV
 split
 ·exact ⟨by simp only;omega,by simp only;omega⟩
 ·split
  ·exact h
  ·split
   ·exact y19 (by omega)
   ·exact h
def zO (q:List Int) (k:y8):Nat:=(qc q (kG k.1 k.2.1) q.length).toNat
def qP (l:List y8):Nat:=(l.length+1) / 2
def yL (q:List Int) (t:List y0) (k:y8):List Int×List y0:=
 if (zV (t.getD (zO q k) yH) k).2=false then
  (Y2 q (zO q k) 1 [q.getD (zO q k) 0,yfP ((wE (t.getD (zO q k) yH) k).getD (qP (wE (t.getD (zO q k) yH) k)) yX)],
   Y2 t (zO q k) 1 [zU ((wE (t.getD (zO q k) yH) k).take (qP (wE (t.getD (zO q k) yH) k))),zU ((wE (t.getD (zO q k) yH) k).drop (qP (wE (t.getD (zO q k) yH) k)))])
 else if 0<zO q k∧(zo (zV (t.getD (zO q k) yH) k).1).length=0 then (Y2 q (zO q k) 1 [],Y2 t (zO q k) 1 [])
 else (q,t.set (zO q k) (zV (t.getD (zO q k) yH) k).1)
def yw (q:List Int) (t:List y0) (k:y8):List Int×List y0×Bool:=
 if (ZG q t&&WW k)=true then
  (if ZG (kV (yL q t k).2.length (yL q t k).1 (yL q t k).2).1 (kV (yL q t k).2.length (yL q t k).1 (yL q t k).2).2=true then
   ((kV (yL q t k).2.length (yL q t k).1 (yL q t k).2).1,(kV (yL q t k).2.length (yL q t k).1 (yL q t k).2).2,true) else (q,t,false))
 else (q,t,false)
theorem ycn: ∀ (m:Nat) (q:List Int) (t:List y0),TS t→TS (kV m q t).2
 |0,_,_,h=>h
 |m+1,q,t,h=>by
  rw [kV]
  split
  ·exact h
  ·rename_i hp
   exact ycn m _ _ (yfT h hp)
section
variable {q:List Int} {t:List y0} {k:y8} (h:ZG q t=true) (hk:WW k=true)
include h hk
theorem y7e:(qc q (kG k.1 k.2.1) q.length)=(zO q k:Int)∧zO q k<t.length∧zO q k<q.length:=by
 obtain ⟨h1,h2,h3,h4⟩:=kF h
 have h5:=y69 q (kG k.1 k.2.1) (by rw [yfU h];exact yn3 hk) (q.length - 1)
 rw [show q.length - 1+1=q.length by omega] at h5
 have h6:=y9z q (kG k.1 k.2.1) q.length
 unfold zO
 omega
theorem y37:Zu (t.getD (zO q k) yH)=true:=by
 have h1:=(y7e h hk).2.1
 rw [y32 _ _ _ h1]
 exact (kF h).2.2.2 _ (cR _)
theorem yfV (hm:(zV (t.getD (zO q k) yH) k).2=false):qP (wE (t.getD (zO q k) yH) k)<(wE (t.getD (zO q k) yH) k).length∧(wE (t.getD (zO q k) yH) k).length≤9:=by
 have h1:=yn4 (y37 h hk) hk hm
 have h2:=y55 (t.getD (zO q k) yH) k
 have h3:=QR (t.getD (zO q k) yH)
 have h4:=(Ju (y37 h hk)).2.1
 unfold qP
 omega
theorem y9D:TS (yL q t k).2∧(yL q t k).1.length=(yL q t k).2.length:=by
 obtain ⟨h1,h2,h3,h4⟩:=kF h
 obtain ⟨g0,g1,g2⟩:=y7e h hk
 have hT:=y1a h
 have hn:=Ju (y37 h hk)
 unfold yL
 split
 ·rename_i hm
  have hh:=yfV h hk hm
  refine ⟨hT.splice (by rw [WS _ _ _ _ (by omega)];simp only [ah,aj];omega) fun n hn=> ?_,by rw [WS _ _ _ _ (by omega),WS _ _ _ _ (by omega)];simp only [ah,aj];omega⟩
  simp only [aA,List.mem_nil_iff,or_false] at hn
  rcases hn with rfl|rfl
  ·exact y19 (by rw [ak];omega)
  ·exact y19 (by rw [aC];omega)
 ·split
  ·refine ⟨hT.splice (by rw [WS _ _ _ _ (by omega)];simp only [aj];omega) (fun n hn=>by cases hn),by rw [WS _ _ _ _ (by omega),WS _ _ _ _ (by omega)];simp only [aj];omega⟩
  ·refine ⟨⟨by simp only [aG];omega,fun n hn2=>(bg hn2).elim (hT.node n) fun e=>e ▸ y5I k (y57 (y37 h hk)) (by omega)⟩,by simp only [aG];omega⟩
end
theorem Zn (q:List Int) (t:List y0) (a b c d e:Int) (hT:TOk t) (hQ: ∀ n∈t,y6z n) (hq:q.length≤1048576):Ym (q,t,a,b,c,d,e)=some (yw q t (a,b,c,d,e)):=by
 unfold Ym yw nz
 simp only [VI q t hq hT.len hQ,y0x q t hT,y4X,aa]
 cases h:ZG q t with
 |false=>rfl
 |true=>
  cases hk:WW (a,b,c,d,e) with
  |false=>rfl
  |true=>
   obtain ⟨h1,h2,h3,h4⟩:=kF h
   obtain ⟨g0,g1,g2⟩:=y7e h hk
   have hNS:=y57 (y37 h hk)
   have hnf:=Ju (y37 h hk)
   have hP:=y9D h hk
   have hJ:=ycn (yL q t (a,b,c,d,e)).2.length (yL q t (a,b,c,d,e)).1 (yL q t (a,b,c,d,e)).2 hP.1
   have ern:yk t (zO q (a,b,c,d,e):Int)=t.getD (zO q (a,b,c,d,e)) yH:=by
    show t.getD ((zO q (a,b,c,d,e):Int)).toNat yH=_
    rw [aR]
   have erq:zB q (zO q (a,b,c,d,e):Int)=q.getD (zO q (a,b,c,d,e)) 0:=by
    show q.getD ((zO q (a,b,c,d,e):Int)).toNat 0=_
    rw [aR]
   have hfin: ∀ p:List Int×List y0,p=yL q t (a,b,c,d,e)→(Option.bind (jv (p.1,p.2)) fun r15=>Option.bind (Zc (r15.1,r15.2)) fun r16=>bif (!r16) then some (q,t,false) else some (r15.1,r15.2,true))=some (if ZG (kV (yL q t (a,b,c,d,e)).2.length (yL q t (a,b,c,d,e)).1 (yL q t (a,b,c,d,e)).2).1 (kV (yL q t (a,b,c,d,e)).2.length (yL q t (a,b,c,d,e)).1 (yL q t (a,b,c,d,e)).2).2=true then ((kV (yL q t (a,b,c,d,e)).2.length (yL q t (a,b,c,d,e)).1 (yL q t (a,b,c,d,e)).2).1,(kV (yL q t (a,b,c,d,e)).2.length (yL q t (a,b,c,d,e)).1 (yL q t (a,b,c,d,e)).2).2,true) else (q,t,false)):=by
    rintro p rfl
    simp only [ye2 _ _ hP.1 hP.2,aa,y0x _ _ hJ.ok]
    cases ZG (kV (yL q t (a,b,c,d,e)).2.length (yL q t (a,b,c,d,e)).1 (yL q t (a,b,c,d,e)).2).1 (kV (yL q t (a,b,c,d,e)).2.length (yL q t (a,b,c,d,e)).1 (yL q t (a,b,c,d,e)).2).2<;>rfl
   simp only [ay,ag,aa,y34 q t a b hq,show qc q (kG a b) q.length=(zO q (a,b,c,d,e):Int) from g0,ern,erq,cQ,aB]
   rw [af (by omega),af (by omega),y36 _ a b c d e hNS]
   simp only [aa]
   rw [af (by omega),af (by omega),y1C q t _ _ _ (by omega) (by omega) (by omega) (by omega) (by omega) (by simp) (by simp)]
   simp only [aa,aR]
   cases hm:(zV (t.getD (zO q (a,b,c,d,e)) yH) (a,b,c,d,e)).2 with
   |false=>
    have hh:=yfV h hk hm
    have hkn:=(hNS.keys)
    have hsl:=WQ (zo (t.getD (zO q (a,b,c,d,e)) yH)) (a,b,c,d,e)
    have e1:YG (WV (zo (t.getD (zO q (a,b,c,d,e)) yH)) (a,b,c,d,e))=some (wE (t.getD (zO q (a,b,c,d,e)) yH) (a,b,c,d,e)):=y2W _ (by omega)
    have hput:=yL.eq_1 q t (a,b,c,d,e)
    rw [af hm] at hput
    generalize hW:wE (t.getD (zO q (a,b,c,d,e)) yH) (a,b,c,d,e)=W at hh e1 hput
    have hwr:Go.IntKind.wrap .i64 (Int.tdiv (Go.IntKind.wrap .i64 (((List.length W:Nat):Int)+(1:Int))) (2:Int))=(qP W:Int):=by
     rw [w64 (n:=((List.length W:Nat):Int)+1) (by omega) (by omega),Int.tdiv_eq_ediv_of_nonneg (by omega)]
     unfold qP
     rw [w64 (by omega) (by omega)]
     omega
    simp only [bf,ai,jj _ (aO hNS.len (by decide)) (cv hNS.sum (by decide)),kD _ a b c d e (show (zo (t.getD (zO q (a,b,c,d,e)) yH)).length≤1073741824 by omega),e1,aa,hwr,aR]
    rw [af (by omega),af (by omega),af (by omega),af (by omega),af (by omega),af (by omega)]
    have e2:WA ((yi W (qP W:Int)).1,(yi W (qP W:Int)).2.1,(yi W (qP W:Int)).2.2.1,(yi W (qP W:Int)).2.2.2.1,(yi W (qP W:Int)).2.2.2.2)=some (yfP (W.getD (qP W) yX)):=by
     have e3:yi W (qP W:Int)=W.getD (qP W) yX:=by
      show W.getD ((qP W:Int)).toNat yX=_
      rw [aR]
     rw [e3]
     rfl
    rw [e2]
    simp only [aa]
    rw [af (by omega),af (by omega),af (by omega),Jt _ (by simp only [aC,ak];omega)]
    simp only [aa]
    rw [af (by omega),af (by omega),af (by omega),Jt _ (by simp only [aC,ak];omega)]
    simp only [aa]
    rw [y1C q t _ _ _ (by omega) (by omega) (by omega) (by omega) (by omega) (by simp) (by simp)]
    simp only [aa,aR,bF]
    exact hfin _ hput.symm
   |true=>
    have hP2:=y5I (a,b,c,d,e) hNS (by omega)
    have hnm: ¬ (zV (t.getD (zO q (a,b,c,d,e)) yH) (a,b,c,d,e)).2=false:=by rw [hm];simp
    simp only [ay,ag,jj _ (aO hP2.len (by decide)) (cv hP2.sum (by decide)),aa]
    have hput:=yL.eq_1 q t (a,b,c,d,e)
    rw [am hnm] at hput
    have h3:(bif decide ((zO q (a,b,c,d,e):Int)>0) then some (((List.length (zo (zV (t.getD (zO q (a,b,c,d,e)) yH) (a,b,c,d,e)).1):Nat):Int)==0) else some false)=some (decide (0<zO q (a,b,c,d,e)∧(zo (zV (t.getD (zO q (a,b,c,d,e)) yH) (a,b,c,d,e)).1).length=0)):=by
     by_cases i0:0<zO q (a,b,c,d,e)
     ·rw [ax (show (zO q (a,b,c,d,e):Int)>0 by omega),ai]
      congr 1
      by_cases i1:(zo (zV (t.getD (zO q (a,b,c,d,e)) yH) (a,b,c,d,e)).1).length=0
      ·rw [ax ⟨i0,i1⟩]
       exact bJ.2 (by omega)
      ·rw [aw (fun hh=>i1 hh.2)]
       exact bj.2 (by omega)
     ·rw [aw (show ¬ (zO q (a,b,c,d,e):Int)>0 by omega),aw (fun hh=>i0 hh.1)]
      rfl
    rw [h3]
    simp only [aa]
    by_cases hz:0<zO q (a,b,c,d,e)∧(zo (zV (t.getD (zO q (a,b,c,d,e)) yH) (a,b,c,d,e)).1).length=0
    ·rw [af hz] at hput
     rw [ax hz,ai,y1C q t _ _ _ (by omega) (by omega) (by omega) (by omega) (by omega) (by simp) (by simp)]
     simp only [aa,aR]
     exact hfin _ hput.symm
    ·rw [am hz] at hput
     rw [aw hz,ag]
     rw [y9A q _ _ (by omega),y9A t _ _ (by omega)]
     refine hfin (q.set (zO q (a,b,c,d,e)) (q.getD (zO q (a,b,c,d,e)) 0),t.set (zO q (a,b,c,d,e)) (zV (t.getD (zO q (a,b,c,d,e)) yH) (a,b,c,d,e)).1) ?_
     rw [hput,y32 _ _ _ (by omega),List.set_getElem_self]
theorem Ww (q:List Int) (t:List y0) (a b c d e:Int) (hT:TOk t) (hQ: ∀ n∈t,y6z n) (hq:q.length≤1048576):Zf (q,t,a,b,c,d,e)=some (yw q t (a,b,c,d,e)):=by
 unfold Zf yw nz
 simp only [qx q t hq hT.len hQ,y0y q t hT,y4Y,aa]
 cases h:ZG q t with
 |false=>rfl
 |true=>
  cases hk:WW (a,b,c,d,e) with
  |false=>rfl
  |true=>
   obtain ⟨h1,h2,h3,h4⟩:=kF h
   obtain ⟨g0,g1,g2⟩:=y7e h hk
   have hNS:=y57 (y37 h hk)
   have hnf:=Ju (y37 h hk)
   have hP:=y9D h hk
   have hJ:=ycn (yL q t (a,b,c,d,e)).2.length (yL q t (a,b,c,d,e)).1 (yL q t (a,b,c,d,e)).2 hP.1
   have ern:yk t (zO q (a,b,c,d,e):Int)=t.getD (zO q (a,b,c,d,e)) yH:=by
    show t.getD ((zO q (a,b,c,d,e):Int)).toNat yH=_
    rw [aR]
   have erq:zB q (zO q (a,b,c,d,e):Int)=q.getD (zO q (a,b,c,d,e)) 0:=by
    show q.getD ((zO q (a,b,c,d,e):Int)).toNat 0=_
    rw [aR]
   have hfin: ∀ p:List Int×List y0,p=yL q t (a,b,c,d,e)→(Option.bind (jG (p.1,p.2)) fun r15=>Option.bind (Zd (r15.1,r15.2)) fun r16=>bif (!r16) then some (q,t,false) else some (r15.1,r15.2,true))=some (if ZG (kV (yL q t (a,b,c,d,e)).2.length (yL q t (a,b,c,d,e)).1 (yL q t (a,b,c,d,e)).2).1 (kV (yL q t (a,b,c,d,e)).2.length (yL q t (a,b,c,d,e)).1 (yL q t (a,b,c,d,e)).2).2=true then ((kV (yL q t (a,b,c,d,e)).2.length (yL q t (a,b,c,d,e)).1 (yL q t (a,b,c,d,e)).2).1,(kV (yL q t (a,b,c,d,e)).2.length (yL q t (a,b,c,d,e)).1 (yL q t (a,b,c,d,e)).2).2,true) else (q,t,false)):=by
    rintro p rfl
    simp only [y8I _ _ hP.1 hP.2,aa,y0y _ _ hJ.ok]
    cases ZG (kV (yL q t (a,b,c,d,e)).2.length (yL q t (a,b,c,d,e)).1 (yL q t (a,b,c,d,e)).2).1 (kV (yL q t (a,b,c,d,e)).2.length (yL q t (a,b,c,d,e)).1 (yL q t (a,b,c,d,e)).2).2<;>rfl
   simp only [ay,ag,aa,y35 q t a b hq,show qc q (kG a b) q.length=(zO q (a,b,c,d,e):Int) from g0,ern,erq,cQ,aB]
   rw [af (by omega),af (by omega),y8c _ a b c d e hNS]
   simp only [aa,aR]
   cases hm:(zV (t.getD (zO q (a,b,c,d,e)) yH) (a,b,c,d,e)).2 with
   |false=>
    have hh:=yfV h hk hm
    have e1:Yo (t.getD (zO q (a,b,c,d,e)) yH,a,b,c,d,e)=some (wE (t.getD (zO q (a,b,c,d,e)) yH) (a,b,c,d,e)):=y1W _ a b c d e hNS
    have hput:=yL.eq_1 q t (a,b,c,d,e)
    rw [af hm] at hput
    generalize hW:wE (t.getD (zO q (a,b,c,d,e)) yH) (a,b,c,d,e)=W at hh e1 hput
    have hwr:Go.IntKind.wrap .i64 (Int.tdiv (Go.IntKind.wrap .i64 (((List.length W:Nat):Int)+(1:Int))) (2:Int))=(qP W:Int):=by
     rw [w64 (n:=((List.length W:Nat):Int)+1) (by omega) (by omega),Int.tdiv_eq_ediv_of_nonneg (by omega)]
     unfold qP
     rw [w64 (by omega) (by omega)]
     omega
    simp only [bf,ai,e1,aa,hwr,aR]
    rw [af (by omega),af (by omega),af (by omega),af (by omega),af (by omega),af (by omega)]
    have e2:jA ((yi W (qP W:Int)).1,(yi W (qP W:Int)).2.1)=some (yfP (W.getD (qP W) yX)):=by
     have e3:yi W (qP W:Int)=W.getD (qP W) yX:=by
      show W.getD ((qP W:Int)).toNat yX=_
      rw [aR]
     rw [e3]
     rfl
    rw [e2]
    simp only [aa]
    rw [af (by omega),af (by omega),af (by omega),Wv _ (by simp only [aC,ak];omega)]
    simp only [aa]
    rw [af (by omega),af (by omega),af (by omega),Wv _ (by simp only [aC,ak];omega)]
    simp only [aa]
    rw [qy q t _ 1 _ _ (by omega) (by decide) (by omega) (by omega) (by omega) (by omega) (by simp) (by simp)]
    simp only [aa,aR,bF]
    exact hfin _ hput.symm
   |true=>
    have hP2:=y5I (a,b,c,d,e) hNS (by omega)
    have hnm: ¬ (zV (t.getD (zO q (a,b,c,d,e)) yH) (a,b,c,d,e)).2=false:=by rw [hm];simp
    simp only [ay,ag,wo _ (aO hP2.len (by decide)) (cv hP2.sum (by decide)),aa]
    have hput:=yL.eq_1 q t (a,b,c,d,e)
    rw [am hnm] at hput
    have h3:(bif decide ((zO q (a,b,c,d,e):Int)>0) then some (((List.length (zo (zV (t.getD (zO q (a,b,c,d,e)) yH) (a,b,c,d,e)).1):Nat):Int)==0) else some false)=some (decide (0<zO q (a,b,c,d,e)∧(zo (zV (t.getD (zO q (a,b,c,d,e)) yH) (a,b,c,d,e)).1).length=0)):=by
     by_cases i0:0<zO q (a,b,c,d,e)
     ·rw [ax (show (zO q (a,b,c,d,e):Int)>0 by omega),ai]
      congr 1
      by_cases i1:(zo (zV (t.getD (zO q (a,b,c,d,e)) yH) (a,b,c,d,e)).1).length=0
      ·rw [ax ⟨i0,i1⟩]
       exact bJ.2 (by omega)
      ·rw [aw (fun hh=>i1 hh.2)]
       exact bj.2 (by omega)
     ·rw [aw (show ¬ (zO q (a,b,c,d,e):Int)>0 by omega),aw (fun hh=>i0 hh.1)]
      rfl
    rw [h3]
    simp only [aa]
    by_cases hz:0<zO q (a,b,c,d,e)∧(zo (zV (t.getD (zO q (a,b,c,d,e)) yH) (a,b,c,d,e)).1).length=0
    ·rw [af hz] at hput
     rw [ax hz,ai,qy q t _ 1 _ _ (by omega) (by decide) (by omega) (by omega) (by omega) (by omega) (by simp) (by simp)]
     simp only [aa,aR]
     exact hfin _ hput.symm
    ·rw [am hz] at hput
     rw [aw hz,ag,af (by omega),af (by omega)]
     exact hfin _ hput.symm
end Go.Proofs.YtekbnpmmjciloaaGreat.Pl
namespace Go.Proofs.YtekbnpmmjciloaaGreat.Pl
open Go.Proofs.YtekbnpmmjciloaaGreat.R Go.Proofs.YtekbnpmmjciloaaGreat.XA
def QU (fr id:Int) (x:y7):y7:=if (x.2==id)=true then (x.1,fr) else x
def yMF (l:List y7) (i:Nat) (id:Int):List y7:=(l.map (QU (l.getD i YS).2 id)).eraseIdx i
def y4l (l:List y7) (id:Int):List y7×Bool:=if Yk l id<0 then (l,false) else if wD l=true then (yMF l (Yk l id).toNat id,true) else (l,false)
theorem y1b (l:List y7) (h:l.length≤1048576):Y1 l=some l:=by
 unfold Y1 nz
 rw [af (by simp only [aj];omega)]
 rfl
theorem y58 {A:Type} (p:A→Bool): ∀ (l:List A) (i:Int),YD p l i= -1∨i≤YD p l i∧YD p l i<i+l.length
 |[],_=> .inl rfl
 |a::l,i=>by
  rw [YD]
  split
  ·refine .inr ⟨aH _,by simp only [ah];omega⟩
  ·rcases y58 p l (i+1) with h|⟨h1,h2⟩
   ·exact .inl h
   ·exact .inr ⟨by omega,by simp only [ah];omega⟩
theorem y8J (l:List y7) (id:Int) (hl:l.length≤1048576):WG (l,id)=some (y4l l id):=by
 unfold WG y4l nz
 simp only [Zg l id (by omega),kE l hl,aa]
 by_cases h0:Yk l id<0
 ·rw [ax h0,af h0]
  simp only [ai,aa]
  rw [af (by simp only [aj];omega)]
  rfl
 ·rw [aw h0,am h0]
  cases hA:wD l with
  |false=>
   simp only [ag,bf,aa,ai]
   rw [af (by simp only [aj];omega)]
   rfl
  |true=>
   simp only [ag,ay,aa,aB]
   have hi1:Yk l id<(l.length:Int):=by
    rcases y58 (fun a:y7=>a.1==id) l 0 with h|⟨h1,h2⟩
    ·have:Yk l id= -1:=h
     omega
    ·have:Yk l id=YD (fun a:y7=>a.1==id) l 0:=rfl
     omega
   generalize Yk l id=i at h0 hi1
   unfold y2w
   have key:=Z2 (step:=KE (fun x4=>some (x4,true))) (fun x:List y7×Int×Int×Int×List y7=>l.length - x.2.2.2.1.toNat) (fun x=>x.1=l∧x.2.1=id∧x.2.2.1=i∧0≤x.2.2.2.1∧x.2.2.2.1≤(l.length:Int)∧x.2.2.2.2.length≤x.2.2.2.1.toNat)
    (fun x=>some (x.2.2.2.2++(if x.2.2.2.1≤i then ((l.drop x.2.2.2.1.toNat).map (QU (l.getD i.toNat YS).2 id)).eraseIdx (i - x.2.2.2.1).toNat else (l.drop x.2.2.2.1.toNat).map (QU (l.getD i.toNat YS).2 id)),true)) ?_ (l,id,i,0,[]) ⟨rfl,rfl,rfl,aH _,by simp,by simp⟩ (by simp;omega)
   ·rw [key]
    simp only [aT]
    rw [af (by omega),cK]
    rfl
   ·rintro again ⟨l',id',i',j,o⟩ ⟨rfl,rfl,rfl,j0,j1,ho⟩ hag
    simp only at j0 j1 ho hl hi1 h0 ⊢
    unfold KE nz
    by_cases hj:j<(l'.length:Int)
    ·have hw:Go.IntKind.wrap .i64 (j+1)=j+1:=w64 (by omega) (by omega)
     have hd:=Jr YS l' j j0 hj
     have e1:(j+1).toNat=j.toNat+1:=by omega
     have hlen: ∀ y:y7,(List.length o+List.length ([y]:List y7))*16<140737488355328:=fun y=>by simp only [ah,aj];omega
     have hstep: ∀ y,y=QU (l'.getD i'.toNat YS).2 id' (l'.getD j.toNat YS)→(bif (j !=i') then if (List.length o+List.length ([y]:List y7))*16<140737488355328 then again (l',id',i',j+1,o++[y]) else none else again (l',id',i',j+1,o))=some (o++(if j≤i' then ((l'.drop j.toNat).map (QU (l'.getD i'.toNat YS).2 id')).eraseIdx (i' - j).toNat else (l'.drop j.toNat).map (QU (l'.getD i'.toNat YS).2 id')),true):=by
      rintro y rfl
      rw [hd,bB]
      by_cases hji:j=i'
      ·rw [show (j !=i')=false by simp [hji],ag,af (by omega),show (i' - j).toNat=0 by omega,List.eraseIdx_zero,List.tail_cons]
       have:=hag (l',id',i',j+1,o) ⟨rfl,rfl,rfl,by simp only;omega,by simp only;omega,by simp only;omega⟩ (by simp only;omega)
       rw [this]
       simp only
       rw [am (by omega)]
      ·rw [show (j !=i')=true by simpa using hji,ai,af (hlen _)]
       have:=hag (l',id',i',j+1,o++[QU (l'.getD i'.toNat YS).2 id' (l'.getD j.toNat YS)]) ⟨rfl,rfl,rfl,by simp only;omega,by simp only;omega,by simp only [ar,ah,aj];omega⟩ (by simp only;omega)
       rw [this]
       simp only
       by_cases hlt:j≤i'
       ·rw [af hlt,af (by omega),show (i' - j).toNat=(i' - (j+1)).toNat+1 by omega,List.eraseIdx_cons_succ,bo]
        rfl
       ·rw [am hlt,am (by omega),bo]
        rfl
     have hrd:yD l' j=l'.getD j.toNat YS:=rfl
     simp only [hw]
     rw [ax hj,ai,af j0,af hj]
     by_cases hid:(l'.getD j.toNat YS).2=id'
     ·have hb:((yD l' j).2==id')=true:=bJ.2 hid
      rw [hb,ai,af (by omega),af hi1]
      exact hstep _ (by unfold QU;rw [af (bJ.2 hid)];rfl)
     ·have hb:((yD l' j).2==id')=false:=bj.2 hid
      rw [hb,ag]
      exact hstep _ (by unfold QU;rw [am (by simpa using hid)];rfl)
    ·rw [aw hj,ag,bO (by omega)]
     simp
theorem y8K (l:List y7) (id:Int) (hl:l.length≤1048576):vx (l,id)=some (y4l l id):=by
 unfold vx y4l nz
 simp only [WR l id (by omega),y0z l hl,y1b l hl,aa]
 by_cases h0:Yk l id<0
 ·rw [ax h0,af h0]
  rfl
 ·rw [aw h0,am h0]
  cases hA:wD l with
  |false=>rfl
  |true=>
   simp only [ag,ay,aa,aB]
   have hi1:Yk l id<(l.length:Int):=by
    rcases y58 (fun a:y7=>a.1==id) l 0 with h|⟨h1,h2⟩
    ·have:Yk l id= -1:=h
     omega
    ·have:Yk l id=YD (fun a:y7=>a.1==id) l 0:=rfl
     omega
   generalize Yk l id=i at h0 hi1
   unfold y2S
   have key:=Z2 (step:=vw (fun x5=>Option.bind (Yy (x5.2,x5.1,(Go.IntKind.wrap .i64 (x5.1+(1:Int))))) fun r6=>some (r6,true))) (fun x:List y7×Int×Int×Int×Int×List y7=>l.length - x.2.2.2.2.1.toNat) (fun x=>x.1=l∧x.2.1=id∧x.2.2.1=i∧x.2.2.2.1=((List.length l:Nat):Int)∧0≤x.2.2.2.2.1∧x.2.2.2.2.1≤(l.length:Int)∧x.2.2.2.2.2.length=l.length)
    (fun x=>some ((x.2.2.2.2.2.take x.2.2.2.2.1.toNat++(x.2.2.2.2.2.drop x.2.2.2.2.1.toNat).map (QU (l.getD i.toNat YS).2 id)).eraseIdx i.toNat,true)) ?_ (l,id,i,((List.length l:Nat):Int),0,l) ⟨rfl,rfl,rfl,rfl,aH _,by simp,rfl⟩ (by simp;omega)
   ·rw [key]
    rfl
   ·rintro again ⟨l',id',i',n,j,o⟩ ⟨rfl,rfl,rfl,hn,j0,j1,ho⟩ hag
    simp only at hn j0 j1 ho hl hi1 h0 hag ⊢
    subst hn
    unfold vw nz
    by_cases hj:j<(l'.length:Int)
    ·have hw:Go.IntKind.wrap .i64 (j+1)=j+1:=w64 (by omega) (by omega)
     have hd:=Jr YS o j j0 (by omega)
     have e1:(j+1).toNat=j.toNat+1:=by omega
     have hjo:j<((List.length o:Nat):Int):=by omega
     have hnext: ∀ o',o'=o.set j.toNat (QU (l'.getD i'.toNat YS).2 id' (o.getD j.toNat YS))→again (l',id',i',((List.length l':Nat):Int),j+1,o')=some ((o.take j.toNat++(o.drop j.toNat).map (QU (l'.getD i'.toNat YS).2 id')).eraseIdx i'.toNat,true):=by
      rintro o' rfl
      rw [hag (l',id',i',((List.length l':Nat):Int),j+1,o.set j.toNat (QU (l'.getD i'.toNat YS).2 id' (o.getD j.toNat YS))) ⟨rfl,rfl,rfl,rfl,by simp only;omega,by simp only;omega,by simpa using ho⟩ (by simp only;omega)]
      simp only
      rw [hd,bB,e1,List.take_succ_eq_append_getElem (by simp;omega),List.take_set_of_le (aS _),List.drop_set_of_lt (by omega)]
      simp
     simp only [hw]
     rw [ax hj,ai,af j0,af hjo]
     by_cases hid:(o.getD j.toNat YS).2=id'
     ·have hb:((yD o j).2==id')=true:=bJ.2 hid
      rw [hb,ai,af (by omega),af hi1,af j0,af hjo]
      exact hnext _ (by unfold QU;rw [af (bJ.2 hid)];rfl)
     ·have hb:((yD o j).2==id')=false:=bj.2 hid
      rw [hb,ag]
      refine hnext _ ?_
      unfold QU
      rw [am (by simpa using hid),y32 _ _ _ (by omega),List.set_getElem_self]
    ·have hjl:j.toNat=o.length:=by omega
     have hwi:Go.IntKind.wrap .i64 (i'+1)=i'+1:=w64 (by omega) (by omega)
     rw [aw hj,ag,hjl,cS,bF,List.map_nil,bt]
     simp only [hwi]
     unfold Yy
     simp only
     rw [af (by omega),af (by omega),af (by omega)]
     simp only [aa]
     rw [show (i'+1).toNat=i'.toNat+1 by omega,List.eraseIdx_eq_take_drop_succ]
def y6A (cs:List y6) (i:Int):List y6:=if Yb cs=true∧0≤i∧i≤23∧(cs.getD i.toNat zv).2.1=true then cs.set i.toNat (Int.tmod (Go.IntKind.wrap .i64 ((cs.getD i.toNat zv).1+1)) 1000,false,0) else cs
theorem y38 (cs:List y6) (i:Int):(y6A cs i).length=cs.length:=by
 unfold y6A
 split
 ·simp
 ·rfl
theorem yco {cs:List y6} (h:Yb cs=true):cs.length=24:=by
 unfold Yb at h
 simp only [al,bJ] at h
 omega
theorem y3p {cs:List y6} {i:Int} (h: ¬ (Yb cs=true∧0≤i∧i≤23∧(cs.getD i.toNat zv).2.1=true)):y6A cs i=cs:=am h
theorem ye3 {cs:List y6} {i:Int} (h:Yb cs=true∧0≤i∧i≤23∧(cs.getD i.toNat zv).2.1=true):y6A cs i=cs.set i.toNat (Int.tmod (Go.IntKind.wrap .i64 ((cs.getD i.toNat zv).1+1)) 1000,false,0):=af h
theorem jk (cs:List y6) (i:Int) (hc:cs.length≤1048576):ZT (cs,i)=some (y6A cs i):=by
 have e1:YH cs=some cs:=by
  unfold YH nz
  rw [af (by simp only [aj];omega)]
  rfl
 unfold ZT nz
 simp only [e1,Wu cs hc,YP,aa]
 cases hk:Yb cs with
 |false=>
  rw [y3p fun h=>by rw [hk] at h;cases h.1]
  rfl
 |true=>
  have h24:=yco hk
  have hw:Go.IntKind.wrap .i64 ((cs.length:Int) - 1)=23:=by rw [w64 (by omega) (by omega)];omega
  simp only [hw,ai,aa]
  cases hi:inR i 0 23 with
  |false=>
   have: ¬ (0≤i∧i≤23):=fun h=>by rw [zX.2 h] at hi;cases hi
   rw [y3p fun h=>this ⟨h.2.1,h.2.2.1⟩]
   rfl
  |true=>
   obtain ⟨i0,i1⟩:=zX.1 hi
   rw [ai,af i0,af (by omega)]
   have hrd:ym cs i=cs.getD i.toNat zv:=rfl
   rw [hrd]
   cases hu:(cs.getD i.toNat zv).2.1 with
   |false=>
    rw [y3p fun h=>by have:=h.2.2.2;rw [hu] at this;cases this]
    rfl
   |true=>
    simp only [aa,ai]
    rw [af i0,af (by omega),af i0,af (by omega),ye3 ⟨hk,i0,i1,hu⟩]
theorem qz (cs:List y6) (i:Int) (hc:cs.length≤1048576):ZY (cs,i)=some (y6A cs i):=by
 have e1:Y4 cs=some cs:=by
  unfold Y4 nz
  rw [af (by simp only [aj];omega)]
  rfl
 unfold ZY nz
 simp only [e1,QS cs hc,Yd,aa]
 cases hk:Yb cs with
 |false=>
  rw [y3p fun h=>by rw [hk] at h;cases h.1]
  rfl
 |true=>
  have h24:=yco hk
  simp only [ay,ag,aa]
  cases hi:inR i 0 23 with
  |false=>
   have: ¬ (0≤i∧i≤23):=fun h=>by rw [zX.2 h] at hi;cases hi
   rw [y3p fun h=>this ⟨h.2.1,h.2.2.1⟩]
   rfl
  |true=>
   obtain ⟨i0,i1⟩:=zX.1 hi
   rw [ay,ag,af i0,af (by omega)]
   have hrd:ym cs i=cs.getD i.toNat zv:=rfl
   rw [hrd]
   cases hu:(cs.getD i.toNat zv).2.1 with
   |false=>
    rw [y3p fun h=>by have:=h.2.2.2;rw [hu] at this;cases this]
    rfl
   |true=>
    simp only [aa,ay,ag]
    rw [af i0,af (by omega),af i0,af (by omega),ye3 ⟨hk,i0,i1,hu⟩]
end Go.Proofs.YtekbnpmmjciloaaGreat.Pl
namespace Go.Proofs.YtekbnpmmjciloaaGreat.Pl
open Go.Proofs.YtekbnpmmjciloaaGreat.R Go.Proofs.YtekbnpmmjciloaaGreat.XA
def ye4 (l:List y7) (vs:List yf) (id:Int):Bool:=y5G vs id&&((Yf l id).length:Int)==1
def j8 (q:List Int) (t:List y0) (l:List y7) (vs:List yf) (step:Int) (k:y8):Bool:=
 if step=1 then !y82 t l vs k else if step=2 then (k.2.2.1==2)&& !(y8a t l k.1 k.2.1).1 else
  ye4 l vs k.2.1&& !(jV q t k.1 ((Yf l k.2.1).getD 0 0)).2.2.2.2.2
theorem yn5 (l:List y7) (id:Int): ∀ x∈Yf l id,∃ a∈l,a.1=x:=by
 have: ∀ (l:List y7) (s:List Int) (x:Int),x∈l.foldl (y30 id) s→x∈s∨ ∃ a∈l,a.1=x:=by
  intro l
  induction l with
  |nil=>intro s x h;exact .inl h
  |cons a l ih=>
   intro s x h
   rw [ba] at h
   rcases ih _ x h with h|⟨b,hb,e⟩
   ·unfold y30 at h
    split at h
    ·rcases aF.1 h with h|h
     ·exact .inl h
     ·exact .inr ⟨a,by simp,(by simpa using h:x=a.1).symm⟩
    ·exact .inl h
   ·exact .inr ⟨b,by simp [hb],e⟩
 intro x hx
 rcases this l [] x hx with h|h
 ·simp at h
 ·exact h
theorem yhh {A:Type} {p:A→Bool}: ∀ (l:List A) (i:Int),Zm (fun _ a=>p a) l i=false→ ∀ a∈l,p a=false
 |b::l,i,h,a,ha=>by
  rw [Zm,aL] at h
  rcases aA.1 ha with rfl|ha
  ·exact h.1
  ·exact yhh l (i+1) h.2 a ha
theorem yn6 {l:List y7} (h:wD l=true): ∀ a∈l,1≤a.1:=by
 unfold wD ydL at h
 simp only [al,bd] at h
 have h1:=h.1
 rw [yfN,aL] at h1
 intro a ha
 have:=yhh (p:=fun a:y7=> !inR a.1 1 60) l 0 h1.1 a ha
 simp only [bc] at this
 exact (zX.1 this).1
section
variable (q:List Int) (t:List y0) (l:List y7) (cs:List y6) (vs:List yf) (z:Int)
theorem y8e (ht:TOk t) (hq:q.length≤1048576) (hl:l.length≤1048576) (hv:vs.length≤1048576) (hpos: ∀ a∈l,1≤a.1) (step:Int) (k1 k2 k3 k4 k5:Int):KB (q,t,l,cs,vs,z,step,k1,k2,k3,k4,k5)=some (j8 q t l vs step (k1,k2,k3,k4,k5)):=by
 unfold KB j8 nz
 simp only [ae,bJ,y5E q t l cs vs z k1 k2 k3 k4 k5 ht hl hv,y1B q t l k1 k2 ht hl,aa]
 by_cases h1:step=1
 ·simp only [h1,aB]
 by_cases h2:step=2
 ·subst h2
  simp only [aB,am (show ¬ (2:Int)=1 by omega)]
  by_cases h3:k3=2
  ·have:(k3==2)=true:=by simp [h3]
   rw [this,af h3]
   rfl
  ·have:(k3==2)=false:=by simpa using h3
   rw [this,am h3]
   rfl
 simp only [h1,h2,aU]
 unfold VA jy ye4 nz
 simp only [VF l k2 hl,y33 q t l cs vs z k2 hv,aa]
 cases y5G vs k2
 ·rfl
 by_cases hk:((Yf l k2).length:Int)=1
 ·have g1:(((Yf l k2).length:Int) !=1)=false:=by simp [hk]
  have g2:(((Yf l k2).length:Int)==1)=true:=by simp [hk]
  have hlt:(0:Int)<((Yf l k2).length:Int):=by omega
  have hne:((Yf l k2).getD 0 0==0)=false:=by
   have hm:(Yf l k2).getD 0 0∈Yf l k2:=z5 0 (Yf l k2) 0 (aH _) hlt
   obtain ⟨a,ha,e⟩:=yn5 l k2 _ hm
   have:=hpos a ha
   simp only [bj,ne_eq]
   omega
  have hx:zB (Yf l k2) 0=(Yf l k2).getD 0 0:=rfl
  simp only [g1,g2,hlt,ay,ag,ai,aa,aH,aB,hx,hne,wA q t k1 _ ht hq,br,cQ,Bool.and_true,br]
 ·have g1:(((Yf l k2).length:Int) !=1)=true:=by simpa using hk
  have g2:(((Yf l k2).length:Int)==1)=false:=by simpa using hk
  simp only [g1,g2]
  rfl
theorem y8f (ht:TOk t) (hq:q.length≤1048576) (hl:l.length≤1048576) (hv:vs.length≤1048576) (step:Int) (k1 k2 k3 k4 k5:Int):kr (q,t,l,cs,vs,z,step,k1,k2,k3,k4,k5)=some (j8 q t l vs step (k1,k2,k3,k4,k5)):=by
 unfold kr j8 nz
 simp only [ae,bJ,y5F q t l cs vs z k1 k2 k3 k4 k5 ht hl hv,y52 q t l k1 k2 ht hl,aa]
 by_cases h1:step=1
 ·simp only [h1,aB]
 by_cases h2:step=2
 ·subst h2
  simp only [aB,am (show ¬ (2:Int)=1 by omega)]
  by_cases h3:k3=2
  ·have:(k3==2)=true:=by simp [h3]
   rw [this,af h3]
   rfl
  ·have:(k3==2)=false:=by simpa using h3
   rw [this,am h3]
   rfl
 simp only [h1,h2,aU]
 unfold ye4
 simp only [VG l k2 hl,y67 q t l cs vs z k2 hv,aa]
 cases y5G vs k2
 ·rfl
 by_cases hk:((Yf l k2).length:Int)=1
 ·have g1:(((Yf l k2).length:Int) !=1)=false:=by simp [hk]
  have g2:(((Yf l k2).length:Int)==1)=true:=by simp [hk]
  have hlt:(0:Int)<((Yf l k2).length:Int):=by omega
  have hx:zB (Yf l k2) 0=(Yf l k2).getD 0 0:=rfl
  simp only [g1,g2,hlt,ay,aX,aU,aa,aH,aB,hx,VJ q t k1 _ ht hq,br,cQ,Bool.and_true,br]
 ·have g1:(((Yf l k2).length:Int) !=1)=true:=by simpa using hk
  have g2:(((Yf l k2).length:Int)==1)=false:=by simpa using hk
  simp only [g1,g2]
  rfl
def ycp (id:Int) (_:Int) (k:y8):Bool:=k.2.1==id
def yp7 (ks:List y8) (l:List y7) (vs:List yf) (a:y7):Bool:= !Zm (ycp a.1) ks 0&&(y5G vs a.1&&decide (((Yf l a.1).length:Int)≤1))
theorem yfW (ht:TOk t) (hl:l.length≤1048576) (hv:vs.length≤1048576) (a:y7):KC (q,t,l,cs,vs,z,a.1)=some (yp7 (yW t) l vs a):=by
 unfold KC y2v yp7 nz
 have hk:=ht.keys
 have e:yY (q,t)=some (yW t):=YX q t (by have:=ht.len;omega) ht.nodes ht.sum
 simp only [e,aa]
 generalize yW t=ks at hk
 refine (Ye (step:=W3 _ _) (fun i=>(a.1,i,q,t,l,cs,vs,z,ks)) (ycp a.1) (some false) (some (y5G vs a.1&&decide (((Yf l a.1).length:Int)≤1))) yX ks (by omega) ?_ ?_).trans ?_
 ·intro again i h0 h1
  have hw:Go.IntKind.wrap .i64 (i+1)=i+1:=w64 (by omega) (by omega)
  unfold W3 ycp nz
  have hx:ks.getD i.toNat yX=yi ks i:=rfl
  rw [hx]
  simp only [ae,ac,h0,h1,aB,hw]
 ·intro again i hi
  unfold W3 nz
  simp only [ae,ac,am hi,y33 q t l cs vs z a.1 hv,VF l a.1 hl,aa]
  cases y5G vs a.1<;>rfl
 ·cases Zm (ycp a.1) ks 0<;>rfl
theorem y8g (ks:List y8) (id:Int) (hk:ks.length≤1048576):kt (ks,id)=some (Zm (ycp id) ks 0):=by
 unfold kt y1S nz
 refine (Ye (step:=wa _ _) (fun i=>(id,ks,(ks.length:Int),i)) (ycp id) (some true) (some false) yX ks (by omega) ?_ ?_).trans ?_
 ·intro again i h0 h1
  have hw:Go.IntKind.wrap .i64 (i+1)=i+1:=w64 (by omega) (by omega)
  unfold wa ycp nz
  have hx:ks.getD i.toNat yX=yi ks i:=rfl
  rw [hx]
  simp only [ae,ac,h0,h1,aB,hw]
 ·intro again i hi
  unfold wa nz
  simp only [ae,ac,am hi]
 ·cases Zm (ycp id) ks 0<;>rfl
def y8h (q:List Int) (t:List y0) (l:List y7) (vs:List yf) (_:Int) (_:Unit) (step:Int):Except (Option (Int×Int)) Unit:=
 if YD (j8 q t l vs step) (yW t) 0<0 then .ok () else .error (some (step,YD (j8 q t l vs step) (yW t) 0))
def y3q (t:List y0) (l:List y7) (vs:List yf):Int×Int:=
 if YD (yp7 (yW t) l vs) l 0<0 then (0,0) else (4,YD (yp7 (yW t) l vs) l 0)
def ycq (q:List Int) (t:List y0) (l:List y7) (cs:List y6) (vs:List yf) (z:Int):Option (Int×Int):=
 if yK q t l cs vs z=true then ydA (y8h q t l vs) (fun _=>some (y3q t l vs)) ([1,2,3]:List Int) 0 () else some (0,0)
theorem ytx (i:Int) (h0:0≤i) (h1:i<3):([1,2,3]:List Int).getD i.toNat 0=i+1:=by
 have:i=0∨i=1∨i=2:=by omega
 rcases this with rfl|rfl|rfl<;>rfl
theorem ye5 (ht:TOk t) (hq:q.length≤1048576) (hl:l.length≤1048576) (hc:cs.length≤1048576) (hv:vs.length≤1048576) (hvn: ∀ v∈vs,ByteArray.size v.1≤maxLen):W4 (q,t,l,cs,vs,z)=ycq q t l cs vs z:=by
 unfold W4 ycq nz
 have hk:=ht.keys
 have e:yY (q,t)=some (yW t):=YX q t (by have:=ht.len;omega) ht.nodes ht.sum
 simp only [y3V q t l cs vs z ht hl hc hv hvn,e,aa]
 cases hp:yK q t l cs vs z
 ·rfl
 have hpos: ∀ a∈l,1≤a.1:=by
  refine yn6 ?_
  unfold yK at hp
  simp only [al] at hp
  exact hp.2.1
 simp only [ay,ag,aB]
 unfold y0R
 refine y7Z (step:=J5 _ _) (fun i (_:Unit)=>(i+1,q,t,l,cs,vs,z,yW t)) (y8h q t l vs) (fun _=>some (y3q t l vs)) 0 ([1,2,3]:List Int) (by decide) (fun _ _=>True) (fun again i s h0 h1 _=>⟨?_,fun _ _=>trivial⟩) ?_ () trivial
 ·have h1':i<3:=h1
  rw [ytx i h0 h1']
  have hw:Go.IntKind.wrap .i64 (i+1+1)=i+1+1:=w64 (by omega) (by omega)
  unfold J5 y8h nz
  have hle:i+1≤3:=by omega
  simp only [ae,ac,hle,aB]
  unfold y0Q
  refine (Yr (step:=J4 _ _) (fun j=>(i+1,j,q,t,l,cs,vs,z,yW t)) (j8 q t l vs (i+1)) (fun j=>some (i+1,j)) (again (i+1+1,q,t,l,cs,vs,z,yW t)) yX (yW t) (by omega) ?_ ?_).trans ?_
  ·intro again' j j0 j1
   have hwj:Go.IntKind.wrap .i64 (j+1)=j+1:=w64 (by omega) (by omega)
   unfold J4 nz
   obtain ⟨⟨x1,x2,x3,x4,x5⟩,hx⟩: ∃ x,yi (yW t) j=x:=⟨_,rfl⟩
   have hx':(yW t).getD j.toNat yX=(x1,x2,x3,x4,x5):=hx
   rw [hx']
   simp only [ae,ac,j0,j1,aB,hwj,hx,y8e q t l cs vs z ht hq hl hv hpos (i+1) x1 x2 x3 x4 x5,aa]
  ·intro again' j hj
   unfold J4 nz
   simp only [ae,ac,am hj,hw]
  ·split<;>rfl
 ·intro again i s hi
  have hi': ¬ i<3:=hi
  have hle: ¬ i+1≤3:=by omega
  unfold J5 nz
  simp only [ae,ac,am hle]
  unfold y07 y3q
  refine (Yr (step:=jz _ _) (fun j=>(j,q,t,l,cs,vs,z)) (yp7 (yW t) l vs) (fun j=>some (4,j)) (some (0,0)) YS l (by omega) ?_ ?_).trans ?_
  ·intro again' j j0 j1
   have hwj:Go.IntKind.wrap .i64 (j+1)=j+1:=w64 (by omega) (by omega)
   unfold jz nz
   have hx:l.getD j.toNat YS=yD l j:=rfl
   rw [hx]
   simp only [ae,ac,j0,j1,aB,hwj,yfW q t l cs vs z ht hl hv (yD l j),aa]
  ·intro again' j hj
   unfold jz nz
   simp only [ae,ac,am hj]
  ·split<;>rfl
theorem ye6 (ht:TOk t) (hq:q.length≤1048576) (hl:l.length≤1048576) (hc:cs.length≤1048576) (hv:vs.length≤1048576) (hvn: ∀ v∈vs,ByteArray.size v.1≤maxLen):Wk (q,t,l,cs,vs,z)=ycq q t l cs vs z:=by
 unfold Wk ycq nz
 have hk:=ht.keys
 have e:zz (q,t)=some (yW t):=wq q t (by have:=ht.len;omega) ht.nodes ht.sum
 simp only [y3W q t l cs vs z ht hl hc hv hvn,e,aa]
 cases hp:yK q t l cs vs z
 ·rfl
 simp only [ay,ag,aB]
 unfold y0Y
 refine y7Z (step:=Je _ _) (fun i (_:Unit)=>(3,i,q,t,l,cs,vs,z,yW t,[1,2,3])) (y8h q t l vs) (fun _=>some (y3q t l vs)) 0 ([1,2,3]:List Int) (by decide) (fun _ _=>True) (fun again i s h0 h1 _=>⟨?_,fun _ _=>trivial⟩) ?_ () trivial
 ·have h1':i<3:=h1
  have hx:zB ([1,2,3]:List Int) i=i+1:=ytx i h0 h1'
  have h1'':i<((([1,2,3]:List Int).length:Nat):Int):=h1
  rw [ytx i h0 h1']
  have hw:Go.IntKind.wrap .i64 (i+1)=i+1:=w64 (by omega) (by omega)
  unfold Je y8h nz
  simp only [ae,ac,h0,h1',h1'',hx,aB]
  unfold y0X
  refine (Yr (step:=Jd _ _) (fun j=>(i+1,3,i,((yW t).length:Int),j,q,t,l,cs,vs,z,yW t,[1,2,3])) (j8 q t l vs (i+1)) (fun j=>some (i+1,j)) (again (3,i+1,q,t,l,cs,vs,z,yW t,[1,2,3])) yX (yW t) (by omega) ?_ ?_).trans ?_
  ·intro again' j j0 j1
   have hwj:Go.IntKind.wrap .i64 (j+1)=j+1:=w64 (by omega) (by omega)
   unfold Jd nz
   obtain ⟨⟨x1,x2,x3,x4,x5⟩,hx⟩: ∃ x,yi (yW t) j=x:=⟨_,rfl⟩
   have hx':(yW t).getD j.toNat yX=(x1,x2,x3,x4,x5):=hx
   rw [hx']
   simp only [ae,ac,j0,j1,aB,hwj,hx,y8f q t l cs vs z ht hq hl hv (i+1) x1 x2 x3 x4 x5,aa]
  ·intro again' j hj
   unfold Jd nz
   simp only [ae,ac,am hj,hw]
  ·split<;>rfl
 ·intro again i s hi
  have hi': ¬ i<3:=hi
  unfold Je nz
  simp only [ae,ac,am hi']
  unfold y0c y3q
  refine (Yr (step:=jJ _ _) (fun j=>(l,(l.length:Int),j,q,t,l,cs,vs,z,yW t)) (yp7 (yW t) l vs) (fun j=>some (4,j)) (some (0,0)) YS l (by omega) ?_ ?_).trans ?_
  ·intro again' j j0 j1
   have hwj:Go.IntKind.wrap .i64 (j+1)=j+1:=w64 (by omega) (by omega)
   unfold jJ yp7 nz
   have hx:l.getD j.toNat YS=yD l j:=rfl
   rw [hx]
   simp only [ae,ac,j0,j1,aB,hwj,y67 q t l cs vs z _ hv,VG l _ hl,y8g (yW t) _ hk,aa]
   cases y5G vs (yD l j).1<;>cases Zm (ycp (yD l j).1) (yW t) 0<;>by_cases hkk:((Yf l (yD l j).1).length:Int)≤1<;>simp [hkk]
  ·intro again' j hj
   unfold jJ nz
   simp only [ae,ac,am hj]
  ·split<;>rfl
theorem ye7 {S A R:Type} (g:Int→S→A→Except (Option R) S) (k:S→Option R) (hg: ∀ i s a r,g i s a= .error r→ ∃ x,r=some x) (hk: ∀ s,∃ x,k s=some x): ∀ (l:List A) (i:Int) (s:S),∃ x,ydA g k l i s=some x
 |[],i,s=>hk s
 |a::l,i,s=>by
  rw [ydA]
  cases h:g i s a with
  |error r=>exact hg i s a r h
  |ok s'=>exact ye7 g k hg hk l (i+1) s'
theorem y9E: ∃ r,ycq q t l cs vs z=some r:=by
 unfold ycq
 split
 ·refine ye7 _ _ (fun i s a r h=> ?_) (fun s=>⟨_,rfl⟩) _ _ _
  unfold y8h at h
  split at h
  ·cases h
  ·injection h with h
   exact ⟨_,h.symm⟩
 ·exact ⟨_,rfl⟩
end
end Go.Proofs.YtekbnpmmjciloaaGreat.Pl
namespace Go.Proofs.YtekbnpmmjciloaaGreat.Pl
open Go.Proofs.YtekbnpmmjciloaaGreat.R Go.Proofs.YtekbnpmmjciloaaGreat.XA
structure SP (q:List y9) (t:List y0) (l:List y7) (cs:List y6) (vs:List yf):Prop where
 S:small q t l cs vs
 N: ∀ v∈vs,ByteArray.size v.1≤maxLen
structure TQ (q:List y9) (t:List y0):Prop where
 T:TOk t
 Q: ∀ n∈t,y6z n
 q:q.length≤1048576
theorem SP.tq {q:List y9} {t:List y0} {l:List y7} {cs:List y6} {vs:List yf} (h:SP q t l cs vs):TQ q t:=
 ⟨⟨h.S.2.1,fun n hn=>by have:=(K9 h.S.2.2.1 hn).1;omega,h.S.2.2.1⟩,fun n hn=>K9 h.S.2.2.1 hn,h.S.1⟩
theorem TQ.sp {q q':List y9} {t t':List y0} {l l':List y7} {cs cs':List y6} {vs:List yf} (h:TQ q' t') (h2:SP q t l cs vs) (hl:l'.length≤1048576) (hc:cs'.length≤1048576):SP q' t' l' cs' vs:=
 ⟨⟨h.q,h.T.len,h.T.sum,hl,hc,h2.S.2.2.2.2.2⟩,h2.N⟩
theorem TS.tq {q:List y9} {t:List y0} (h:TS t) (hq:q.length≤1048576):TQ q t:=⟨h.ok,fun n hn=>(h.node n hn).q,hq⟩
theorem WT {q:List y9} {t:List y0} (k:y8) (h:TQ q t):TQ (yw q t k).1 (yw q t k).2.1:=by
 unfold yw
 split
 ·rename_i hh
  rw [al] at hh
  split
  ·rename_i hj
   have hT:=y1a hj
   have:=(kF hj)
   exact hT.tq (by simp only;omega)
  ·exact h
 ·exact h
def y1D (k:y8):y8:=(k.1,k.2.1,0,0,0)
def qB (q:List y9) (t:List y0) (cs:List y6) (k:y8):List y6:=if (jV q t k.1 k.2.1).2.2.2.2.2=true∧(jV q t k.1 k.2.1).2.2.1=1 then y6A cs (jV q t k.1 k.2.1).2.2.2.1 else cs
theorem y8i (q:List y9) (t:List y0) (cs:List y6) (k:y8):(qB q t cs k).length=cs.length:=by
 unfold qB
 split
 ·exact y38 _ _
 ·rfl
abbrev PO:Type:=List y9×List y0×List y7×List y6×List yf×Int
section
variable (q:List y9) (t:List y0) (l:List y7) (cs:List y6) (vs:List yf) (z:Int)
def ZC (t:List y0) (i:Int):y8:=(yW t).getD i.toNat yX
def jO (step i:Int):PO×Bool:=
 if step=1∨step=2 then (((yw q t (y1D (ZC t i))).1,(yw q t (y1D (ZC t i))).2.1,l,qB q t cs (ZC t i),vs,z),(yw q t (y1D (ZC t i))).2.2)
 else if step=3 then
  (((yw (yw q t (y1D (ZC t i))).1 (yw q t (y1D (ZC t i))).2.1 ((ZC t i).1,(Yf l (ZC t i).2.1).getD 0 0,(ZC t i).2.2)).1,
   (yw (yw q t (y1D (ZC t i))).1 (yw q t (y1D (ZC t i))).2.1 ((ZC t i).1,(Yf l (ZC t i).2.1).getD 0 0,(ZC t i).2.2)).2.1,l,cs,vs,z),
   (yw q t (y1D (ZC t i))).2.2&&(yw (yw q t (y1D (ZC t i))).1 (yw q t (y1D (ZC t i))).2.1 ((ZC t i).1,(Yf l (ZC t i).2.1).getD 0 0,(ZC t i).2.2)).2.2)
 else ((q,t,(y4l l (l.getD i.toNat YS).1).1,cs,vs,z),(y4l l (l.getD i.toNat YS).1).2)
noncomputable def ye8 (p:PO):Bool:=yK p.1 p.2.1 p.2.2.1 p.2.2.2.1 p.2.2.2.2.1 p.2.2.2.2.2
noncomputable def ye9 (p:PO) (r:PO×Bool):PO×Bool:=if (r.2&&ye8 r.1)=true then (r.1,true) else (p,false)
noncomputable def y59:PO×Bool:=match ycq q t l cs vs z with
 |some (step,i)=>if step=0 then ((q,t,l,cs,vs,z),false) else ye9 (q,t,l,cs,vs,z) (jO q t l cs vs z step i)
 |none=>((q,t,l,cs,vs,z),false)
def y5a (r:PO×Bool):List y9×List y0×List y7×List y6×List yf×Int×Bool:=(r.1.1,r.1.2.1,r.1.2.2.1,r.1.2.2.2.1,r.1.2.2.2.2.1,r.1.2.2.2.2.2,r.2)
theorem y9F {step i:Int} (h:ycq q t l cs vs z=some (step,i)):step=0∨((step=1∨step=2∨step=3)∧0≤i∧i<((yW t).length:Int)∧j8 q t l vs step (ZC t i)=true)∨(step=4∧0≤i∧i<(l.length:Int)):=by
 have hfind: ∀ s,(s=1∨s=2∨s=3)→ ¬ YD (j8 q t l vs s) (yW t) 0<0→(step,i)=(s,YD (j8 q t l vs s) (yW t) 0)→step=0∨((step=1∨step=2∨step=3)∧0≤i∧i<((yW t).length:Int)∧j8 q t l vs step (ZC t i)=true)∨(step=4∧0≤i∧i<(l.length:Int)):=by
  intro s hs h0 he
  injection he with h1 h2
  subst h1 h2
  rcases Js (j8 q t l vs step) yX (yW t) 0 (aH _) with h|⟨h1,h2,h3⟩
  ·omega
  ·rw [cK] at h3
   exact .inr (.inl ⟨hs,h1,by omega,h3⟩)
 unfold ycq at h
 split at h
 ·simp only [ydA,y8h] at h
  by_cases h1:YD (j8 q t l vs 1) (yW t) 0<0
  ·simp only [af h1] at h
   by_cases h2:YD (j8 q t l vs 2) (yW t) 0<0
   ·simp only [af h2] at h
    by_cases h3:YD (j8 q t l vs 3) (yW t) 0<0
    ·simp only [af h3] at h
     injection h with h
     unfold y3q at h
     split at h
     ·injection h with h4 h5
      exact .inl h4.symm
     ·rename_i h4
      injection h with h5 h6
      rcases y58 (yp7 (yW t) l vs) l 0 with h|⟨h7,h8⟩
      ·omega
      ·exact .inr (.inr ⟨h5.symm,by omega,by omega⟩)
    ·simp only [am h3] at h
     injection h with h
     exact hfind 3 (by simp) h3 h.symm
   ·simp only [am h2] at h
    injection h with h
    exact hfind 2 (by simp) h2 h.symm
  ·simp only [am h1] at h
   injection h with h
   exact hfind 1 (by simp) h1 h.symm
 ·injection h with h
  injection h with h1 h2
  exact .inl h1.symm
variable {q t l cs vs} (h:SP q t l cs vs)
include h
theorem y9G (step i:Int):SP (jO q t l cs vs z step i).1.1 (jO q t l cs vs z step i).1.2.1 (jO q t l cs vs z step i).1.2.2.1 (jO q t l cs vs z step i).1.2.2.2.1 (jO q t l cs vs z step i).1.2.2.2.2.1:=by
 have hl:=h.S.2.2.2.1
 have hc:=h.S.2.2.2.2.1
 unfold jO
 split
 ·exact (WT _ h.tq).sp h hl (by rw [y8i];exact hc)
 ·split
  ·exact (WT _ (WT _ h.tq)).sp h hl hc
  ·refine h.tq.sp h ?_ hc
   unfold y4l
   split
   ·exact hl
   ·split
    ·unfold yMF
     exact aO (List.length_eraseIdx_le _ _) (by simpa using hl)
    ·exact hl
theorem yea (a b c d e:Int):jT (q,t,l,cs,vs,z,a,b,c,d,e)=some (if (yw q t (a,b,0,0,0)).2.2=true then (true,(yw q t (a,b,0,0,0)).1,(yw q t (a,b,0,0,0)).2.1,l,qB q t cs (a,b,c,d,e),vs,z) else (false,q,t,l,cs,vs,z)):=by
 have hq:=h.tq
 unfold jT zE nz
 simp only [wA q t a b hq.T hq.q,Zn q t a b 0 0 0 hq.T hq.Q hq.q,aa]
 cases hr:(yw q t (a,b,0,0,0)).2.2 with
 |false=>rfl
 |true=>
  unfold ww qB nz
  simp only [ay,ag,aB,jk cs _ h.S.2.2.2.2.1,aa]
  cases (jV q t a b).2.2.2.2.2 with
  |false=>rfl
  |true=>
   by_cases h1:(jV q t a b).2.2.1=1
   ·rw [af ⟨rfl,h1⟩]
    simp only [h1,ai,aa,bV]
   ·rw [am fun hh=>h1 hh.2]
    simp only [ai,aa,bj.2 h1,ag]
theorem y8L (a b c d e:Int):z3 (q,t,l,cs,vs,z,a,b,0,0,0)=some ((yw q t (a,b,0,0,0)).2.2,(yw q t (a,b,0,0,0)).1,(yw q t (a,b,0,0,0)).2.1,l,if (yw q t (a,b,0,0,0)).2.2=true then qB q t cs (a,b,c,d,e) else cs,vs,z):=by
 have hq:=h.tq
 unfold z3 nz
 simp only [VJ q t a b hq.T hq.q,Ww q t a b 0 0 0 hq.T hq.Q hq.q,aa]
 cases hr:(yw q t (a,b,0,0,0)).2.2 with
 |false=>rfl
 |true=>
  unfold qB
  simp only [ai,aB,aa,qz cs _ h.S.2.2.2.2.1]
  cases (jV q t a b).2.2.2.2.2 with
  |false=>rfl
  |true=>
   by_cases h1:(jV q t a b).2.2.1=1
   ·rw [af ⟨rfl,h1⟩]
    simp only [h1,ai,aa,bV]
   ·rw [am fun hh=>h1 hh.2]
    simp only [ai,aa,bj.2 h1,ag]
theorem Ys:yV (q,t,l,cs,vs,z)=some (yK q t l cs vs z):=y3V q t l cs vs z h.tq.T h.S.2.2.2.1 h.S.2.2.2.2.1 h.S.2.2.2.2.2 h.N
theorem YE:z9 (q,t,l,cs,vs,z)=some (yK q t l cs vs z):=y3W q t l cs vs z h.tq.T h.S.2.2.2.1 h.S.2.2.2.2.1 h.S.2.2.2.2.2 h.N
end
end Go.Proofs.YtekbnpmmjciloaaGreat.Pl
namespace Go.Proofs.YtekbnpmmjciloaaGreat.Pl
open Go.Proofs.YtekbnpmmjciloaaGreat.R Go.Proofs.YtekbnpmmjciloaaGreat.XA
theorem yeb:(((0:Int))==0)=true:=rfl
theorem yec:(((0:Int))==1)=false:=rfl
theorem yed:(((0:Int))==2)=false:=rfl
theorem yee:(((0:Int))==3)=false:=rfl
theorem yef:(((0:Int))==4)=false:=rfl
theorem yeg:(((1:Int))==0)=false:=rfl
theorem yeh:(((1:Int))==1)=true:=rfl
theorem yei:(((1:Int))==2)=false:=rfl
theorem yej:(((1:Int))==3)=false:=rfl
theorem yek:(((1:Int))==4)=false:=rfl
theorem yel:(((2:Int))==0)=false:=rfl
theorem yem:(((2:Int))==1)=false:=rfl
theorem yen:(((2:Int))==2)=true:=rfl
theorem yeo:(((2:Int))==3)=false:=rfl
theorem yep:(((2:Int))==4)=false:=rfl
theorem yeq:(((3:Int))==0)=false:=rfl
theorem yer:(((3:Int))==1)=false:=rfl
theorem yes:(((3:Int))==2)=false:=rfl
theorem yet:(((3:Int))==3)=true:=rfl
theorem yeu:(((3:Int))==4)=false:=rfl
theorem yev:(((4:Int))==0)=false:=rfl
theorem yew:(((4:Int))==1)=false:=rfl
theorem yex:(((4:Int))==2)=false:=rfl
theorem yey:(((4:Int))==3)=false:=rfl
theorem yez:(((4:Int))==4)=true:=rfl
theorem yp8:(((0:Int)) !=0)=false:=rfl
theorem y6a:(((0:Int)) !=3)=true:=rfl
theorem yp9:(((1:Int)) !=0)=true:=rfl
theorem y6b:(((1:Int)) !=3)=true:=rfl
theorem ypa:(((2:Int)) !=0)=true:=rfl
theorem y6c:(((2:Int)) !=3)=true:=rfl
theorem ypb:(((3:Int)) !=0)=true:=rfl
theorem y6d:(((3:Int)) !=3)=false:=rfl
theorem ypc:(((4:Int)) !=0)=true:=rfl
theorem y6e:(((4:Int)) !=3)=true:=rfl
section
variable {q:List y9} {t:List y0} {l:List y7} {cs:List y6} {vs:List yf} (z:Int) (h:SP q t l cs vs)
theorem ycr {q':List y9} {t':List y0} {l':List y7} {cs':List y6} (ok:Bool) (h':SP q' t' l' cs' vs):(Option.bind (bif (!ok) then some true else Option.bind (yV (q',t',l',cs',vs,z)) fun r6=>some (!r6)) fun u5=>bif u5 then some (q,t,l,cs,vs,z,false) else some (q',t',l',cs',vs,z,true))=some (y5a (ye9 (q,t,l,cs,vs,z) ((q',t',l',cs',vs,z),ok))):=by
 rw [Ys z h']
 unfold ye9 ye8 y5a
 cases ok with
 |false=>rfl
 |true=>
  simp only [aa,ay,ag,br]
  cases yK q' t' l' cs' vs z<;>rfl
theorem ycs {q':List y9} {t':List y0} {l':List y7} {cs':List y6} (ok:Bool) (h':SP q' t' l' cs' vs):(Option.bind (bif (!ok) then some true else Option.bind (z9 (q',t',l',cs',vs,z)) fun r6=>some (!r6)) fun u5=>bif u5 then some (q,t,l,cs,vs,z,false) else some (q',t',l',cs',vs,z,true))=some (y5a (ye9 (q,t,l,cs,vs,z) ((q',t',l',cs',vs,z),ok))):=by
 rw [YE z h']
 unfold ye9 ye8 y5a
 cases ok with
 |false=>rfl
 |true=>
  simp only [aa,ay,ag,br]
  cases yK q' t' l' cs' vs z<;>rfl
include h
theorem y1c:YV (q,t,l,cs,vs,z)=some (y5a (y59 q t l cs vs z)):=by
 have hq:=h.tq
 have hl:=h.S.2.2.2.1
 have hc:=h.S.2.2.2.2.1
 have hv:=h.S.2.2.2.2.2
 obtain ⟨⟨step,i⟩,hn⟩:=y9E q t l cs vs z
 have eK:yY (q,t)=some (yW t):=YX q t (by have:=hq.T.len;omega) hq.T.nodes hq.T.sum
 unfold YV nz
 simp only [vG q t l cs vs z h.S,ye5 q t l cs vs z hq.T hq.q hl hc hv h.N,hn,eK,aa]
 have hp:y59 q t l cs vs z=if step=0 then ((q,t,l,cs,vs,z),false) else ye9 (q,t,l,cs,vs,z) (jO q t l cs vs z step i):=by
  unfold y59
  rw [hn]
 have erd:yi (yW t) i=ZC t i:=rfl
 have h12: ∀ s:Int,s=1∨s=2→(Option.bind (jT (q,t,l,cs,vs,z,(ZC t i).1,(ZC t i).2.1,(ZC t i).2.2.1,(ZC t i).2.2.2.1,(ZC t i).2.2.2.2)) fun r4=>Option.bind (bif (!r4.1) then some true else Option.bind (yV (r4.2.1,r4.2.2.1,r4.2.2.2.1,r4.2.2.2.2.1,r4.2.2.2.2.2.1,r4.2.2.2.2.2.2)) fun r6=>some (!r6)) fun u5=>bif u5 then some (q,t,l,cs,vs,z,false) else some (r4.2.1,r4.2.2.1,r4.2.2.2.1,r4.2.2.2.2.1,r4.2.2.2.2.2.1,r4.2.2.2.2.2.2,true))=some (y5a (ye9 (q,t,l,cs,vs,z) (jO q t l cs vs z s i))):=by
  intro s hs
  have hT:=y9G z h s i
  unfold jO at hT ⊢
  rw [af hs] at hT ⊢
  rw [yea z h]
  change Option.bind (some (if (yw q t (y1D (ZC t i))).2.2=true then _ else _)) _=_
  cases hr:(yw q t (y1D (ZC t i))).2.2 with
  |false=>rfl
  |true=>exact ycr z true hT
 rcases y9F q t l cs vs z hn with rfl|⟨hs,i0,i1,hk⟩|⟨rfl,i0,i1⟩
 ·rw [hp,af rfl]
  rfl
 ·rcases hs with rfl|rfl|rfl
  ·rw [hp,am (show ¬ ((1:Int)=0) by decide)]
   simp only [yeb,yec,yed,yee,yef,yeg,yeh,yei,yej,yek,yel,yem,yen,yeo,yep,yeq,yer,yes,yet,yeu,yev,yew,yex,yey,yez,yp8,y6a,yp9,y6b,ypa,y6c,ypb,y6d,ypc,y6e,ai,ag,erd]
   rw [af i0,af i1]
   exact h12 1 (.inl rfl)
  ·rw [hp,am (show ¬ ((2:Int)=0) by decide)]
   simp only [yeb,yec,yed,yee,yef,yeg,yeh,yei,yej,yek,yel,yem,yen,yeo,yep,yeq,yer,yes,yet,yeu,yev,yew,yex,yey,yez,yp8,y6a,yp9,y6b,ypa,y6c,ypb,y6d,ypc,y6e,ai,ag,erd]
   rw [af i0,af i1]
   exact h12 2 (.inr rfl)
  ·rw [hp,am (show ¬ ((3:Int)=0) by decide)]
   have hT:=y9G z h 3 i
   unfold jO at hT ⊢
   rw [am (show ¬ ((3:Int)=1∨(3:Int)=2) by decide),af (show (3:Int)=3 from rfl)] at hT ⊢
   simp only [yeb,yec,yed,yee,yef,yeg,yeh,yei,yej,yek,yel,yem,yen,yeo,yep,yeq,yer,yes,yet,yeu,yev,yew,yex,yey,yez,yp8,y6a,yp9,y6b,ypa,y6c,ypb,y6d,ypc,y6e,ai,ag,erd]
   rw [af i0,af i1]
   obtain ⟨⟨a,b,c,d,e⟩,hx⟩: ∃ x,ZC t i=x:=⟨_,rfl⟩
   rw [hx] at hk hT ⊢
   have h1:=WT (a,b,0,0,0) hq
   have hone:y5G vs b=true∧((Yf l b).length:Int)=1:=by
    unfold j8 ye4 at hk
    rw [am (show ¬ (3:Int)=1 by decide),am (show ¬ (3:Int)=2 by decide)] at hk
    simp only [al,bJ] at hk
    exact hk.1
   have eKid:jy (q,t,l,cs,vs,z,b)=some ((Yf l b).getD 0 0):=by
    unfold jy nz
    simp only [VF l b hl,y33 q t l cs vs z b hv,hone.1,ay,ag,aa]
    rw [show (((List.length (Yf l b):Nat):Int) !=1)=false by rw [hone.2];rfl,ag,af (by omega),af (by omega)]
    rfl
   simp only [y1D] at hT ⊢
   simp only [Zn q t a b 0 0 0 hq.T hq.Q hq.q,eKid,aa]
   rw [Zn _ _ a ((Yf l b).getD 0 0) c d e h1.T h1.Q h1.q]
   simp only [aa]
   cases (yw q t (a,b,0,0,0)).2.2 with
   |false=>rfl
   |true=>
    simp only [ai,aa,br]
    exact ycr z _ hT
 ·rw [hp,am (show ¬ ((4:Int)=0) by decide)]
  have hT:=y9G z h 4 i
  unfold jO at hT ⊢
  rw [am (show ¬ ((4:Int)=1∨(4:Int)=2) by decide),am (show ¬ (4:Int)=3 by decide)] at hT ⊢
  simp only [yeb,yec,yed,yee,yef,yeg,yeh,yei,yej,yek,yel,yem,yen,yeo,yep,yeq,yer,yes,yet,yeu,yev,yew,yex,yey,yez,yp8,y6a,yp9,y6b,ypa,y6c,ypb,y6d,ypc,y6e,ai,ag]
  rw [af i0,af i1,y8J l _ hl]
  simp only [aa]
  exact ycr z _ hT
theorem y5J:wc (q,t,l,cs,vs,z)=some (y5a (y59 q t l cs vs z)):=by
 have hq:=h.tq
 have hl:=h.S.2.2.2.1
 have hc:=h.S.2.2.2.2.1
 have hv:=h.S.2.2.2.2.2
 obtain ⟨⟨step,i⟩,hn⟩:=y9E q t l cs vs z
 have eK:zz (q,t)=some (yW t):=wq q t (by have:=hq.T.len;omega) hq.T.nodes hq.T.sum
 unfold wc nz
 simp only [wt q t l cs vs z h.S,ye6 q t l cs vs z hq.T hq.q hl hc hv h.N,hn,aa]
 have hp:y59 q t l cs vs z=if step=0 then ((q,t,l,cs,vs,z),false) else ye9 (q,t,l,cs,vs,z) (jO q t l cs vs z step i):=by
  unfold y59
  rw [hn]
 have erd:yi (yW t) i=ZC t i:=rfl
 have h12: ∀ s:Int,s=1∨s=2→(Option.bind (Option.bind (z3 (q,t,l,cs,vs,z,(ZC t i).1,(ZC t i).2.1,(0:Int),(0:Int),(0:Int))) fun r3=>some (r3.1,r3.2.1,r3.2.2.1,r3.2.2.2.1,r3.2.2.2.2.1,r3.2.2.2.2.2.1,r3.2.2.2.2.2.2)) fun r3=>Option.bind (bif (!r3.1) then some true else Option.bind (z9 (r3.2.1,r3.2.2.1,r3.2.2.2.1,r3.2.2.2.2.1,r3.2.2.2.2.2.1,r3.2.2.2.2.2.2)) fun r5=>some (!r5)) fun u4=>bif u4 then some (q,t,l,cs,vs,z,false) else some (r3.2.1,r3.2.2.1,r3.2.2.2.1,r3.2.2.2.2.1,r3.2.2.2.2.2.1,r3.2.2.2.2.2.2,true))=some (y5a (ye9 (q,t,l,cs,vs,z) (jO q t l cs vs z s i))):=by
  intro s hs
  have hT:=y9G z h s i
  unfold jO at hT ⊢
  rw [af hs] at hT ⊢
  have e:z3 (q,t,l,cs,vs,z,(ZC t i).1,(ZC t i).2.1,(0:Int),(0:Int),(0:Int))=some ((yw q t (y1D (ZC t i))).2.2,(yw q t (y1D (ZC t i))).1,(yw q t (y1D (ZC t i))).2.1,l,if (yw q t (y1D (ZC t i))).2.2=true then qB q t cs (ZC t i) else cs,vs,z):=y8L z h _ _ (ZC t i).2.2.1 (ZC t i).2.2.2.1 (ZC t i).2.2.2.2
  rw [e]
  cases hr:(yw q t (y1D (ZC t i))).2.2 with
  |false=>rfl
  |true=>exact ycs z true hT
 rcases y9F q t l cs vs z hn with rfl|⟨hs,i0,i1,hk⟩|⟨rfl,i0,i1⟩
 ·rw [hp,af rfl]
  rfl
 ·unfold jK nz
  simp only [eK,aa]
  rcases hs with rfl|rfl|rfl
  ·rw [hp,am (show ¬ ((1:Int)=0) by decide)]
   simp only [yeb,yec,yed,yee,yef,yeg,yeh,yei,yej,yek,yel,yem,yen,yeo,yep,yeq,yer,yes,yet,yeu,yev,yew,yex,yey,yez,yp8,y6a,yp9,y6b,ypa,y6c,ypb,y6d,ypc,y6e,ai,ag,erd]
   rw [af i0,af i1]
   exact h12 1 (.inl rfl)
  ·rw [hp,am (show ¬ ((2:Int)=0) by decide)]
   simp only [yeb,yec,yed,yee,yef,yeg,yeh,yei,yej,yek,yel,yem,yen,yeo,yep,yeq,yer,yes,yet,yeu,yev,yew,yex,yey,yez,yp8,y6a,yp9,y6b,ypa,y6c,ypb,y6d,ypc,y6e,ai,ag,erd]
   rw [af i0,af i1]
   exact h12 2 (.inr rfl)
  ·rw [hp,am (show ¬ ((3:Int)=0) by decide)]
   have hT:=y9G z h 3 i
   unfold jO at hT ⊢
   rw [am (show ¬ ((3:Int)=1∨(3:Int)=2) by decide),af (show (3:Int)=3 from rfl)] at hT ⊢
   simp only [yeb,yec,yed,yee,yef,yeg,yeh,yei,yej,yek,yel,yem,yen,yeo,yep,yeq,yer,yes,yet,yeu,yev,yew,yex,yey,yez,yp8,y6a,yp9,y6b,ypa,y6c,ypb,y6d,ypc,y6e,ai,ag,erd]
   rw [af i0,af i1]
   obtain ⟨⟨a,b,c,d,e⟩,hx⟩: ∃ x,ZC t i=x:=⟨_,rfl⟩
   rw [hx] at hk hT ⊢
   have h1:=WT (a,b,0,0,0) hq
   have hone:y5G vs b=true∧((Yf l b).length:Int)=1:=by
    unfold j8 ye4 at hk
    rw [am (show ¬ (3:Int)=1 by decide),am (show ¬ (3:Int)=2 by decide)] at hk
    simp only [al,bJ] at hk
    exact hk.1
   simp only [y1D] at hT ⊢
   simp only [VG l b hl,Ww q t a b 0 0 0 hq.T hq.Q hq.q,aa]
   rw [af (by omega),af (by omega)]
   cases (yw q t (a,b,0,0,0)).2.2 with
   |false=>rfl
   |true=>
    simp only [ay,ag,br]
    rw [Ww _ _ a (zB (Yf l b) 0) c d e h1.T h1.Q h1.q]
    simp only [aa]
    exact ycs z _ hT
 ·unfold jK nz
  rw [hp,am (show ¬ ((4:Int)=0) by decide)]
  have hT:=y9G z h 4 i
  unfold jO at hT ⊢
  rw [am (show ¬ ((4:Int)=1∨(4:Int)=2) by decide),am (show ¬ (4:Int)=3 by decide)] at hT ⊢
  simp only [yeb,yec,yed,yee,yef,yeg,yeh,yei,yej,yek,yel,yem,yen,yeo,yep,yeq,yer,yes,yet,yeu,yev,yew,yex,yey,yez,yp8,y6a,yp9,y6b,ypa,y6c,ypb,y6d,ypc,y6e,ai,ag]
  rw [af i0,af i1,y8K l _ hl]
  simp only [aa]
  exact ycs z _ hT
end
end Go.Proofs.YtekbnpmmjciloaaGreat.Pl
