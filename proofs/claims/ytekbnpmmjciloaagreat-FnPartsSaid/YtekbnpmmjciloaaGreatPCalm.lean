/- Base, Loops, Keys, Pool, Tree, Whole, Seen, Rng, Walk, Dev, Marks, MarkC, MarkDev, Join, Img, Flush, CopyPool, See, Oks, Trees, Names, PoolOk, PoolOk2, PoolOk3, MarkHeld, StoreK, PutPool0, Draw, Crc, ReadW, Four, Crc1, Draw2, Put4, Txt, PutPool, PutPool2, GetSuper, SupK, Chk, SetSrt, Next, NodePut, JoinT, TreePut, CutAge, Calm. No condition. -/
import Derived.Test.YtekbnpmmjciloaaGreatDB1
import Derived.Laws.BitsLemmas
set_option linter.all false
namespace Go.Proofs.YtekbnpmmjciloaaGreat.Pl
open Go.Proofs.YtekbnpmmjciloaaGreat.R Go.Proofs.YtekbnpmmjciloaaGreat.XB
theorem y4N {T R:Type} {step:(T→Option R)→T→Option R} (μ:T→Nat) (inv:T→Prop) (G:T→Option R)
  (h: ∀ again t,inv t→(∀ t',inv t'→μ t'<μ t→again t'=G t')→step again t=G t): ∀ (n:Nat) (t:T),inv t→μ t<n→iter step n t=G t:=by
 intro n;induction n with
 |zero=>intro t _ hn;omega
 |succ n ih=>intro t ht hn;rw [iter];exact h _ t ht fun t' ht' hlt=>ih t' ht' (by omega)
theorem Ym {T R:Type} {step:(T→Option R)→T→Option R} (μ:T→Nat) (inv:T→Prop) (G:T→Option R)
  (h: ∀ again t,inv t→(∀ t',inv t'→μ t'<μ t→again t'=G t')→step again t=G t) (t:T) (ht:inv t) (hn:μ t<18446744073709551616):iter step FUEL t=G t:=
 y4N μ inv G h FUEL t ht (by rw [Zz];exact hn)
theorem zb {n:Int} (h0: -9223372036854775808≤n) (h1:n≤9223372036854775807):Go.IntKind.wrap .i64 n=n:=by rw [IntKind.wrap_i64];omega
def Yn (x a b:Int):Bool:=decide (a≤x)&&decide (x≤b)
theorem zi {x a b:Int}:Yn x a b=true↔a≤x∧x≤b:=by simp [Yn]
theorem wrap_small (n:Nat) (h:n<9223372036854775808):IntKind.i64.wrap (n:Int)=n:=by rw [IntKind.wrap_i64];omega
theorem L9 (x:Int):((BitVec.ofInt 64 x).toNat:Int)=x % 18446744073709551616:=by rw [BitVec.toNat_ofInt];omega
theorem La (x:Int) (m:Nat) (j:Nat) (hj:j<63) (hm:m=2 ^ j - 1):bits .and .i64 x m=x % (2 ^ j:Nat):=by
 have hd:(2 ^ j:Nat)∣18446744073709551616:=by
  have:(18446744073709551616:Nat)=2 ^ j*2 ^ (64 - j):=by rw [← Nat.pow_add,show j+(64 - j)=64 by omega]
  rw [this];exact Nat.dvd_mul_right _ _
 have hlt:m<18446744073709551616:=by have:2 ^ j≤2 ^ 64:=uI (by omega) (by omega);have h1:0<2 ^ j:=Nat.two_pow_pos j;omega
 have hj63:2 ^ j<9223372036854775808:=by have:2 ^ j≤2 ^ 62:=uI (by omega) (by omega);omega
 show IntKind.i64.wrap ((BitVec.ofInt 64 x&&& BitVec.ofInt 64 (m:Int)).toNat:Int)=_;rw [BitVec.toNat_and,BitVec.ofInt_natCast,BitVec.toNat_ofNat,rX hlt,hm,Nat.and_two_pow_sub_one_eq_mod];have h2:=Nat.mod_lt (BitVec.ofInt 64 x).toNat (Nat.two_pow_pos j);rw [wrap_small _ (by omega),Int.natCast_emod,L9];exact Int.emod_emod_of_dvd _ (Int.ofNat_dvd.2 hd)
theorem y1_ (x:Int):bits .and .i64 x 255=x % 256:=La x 255 8 (by omega) (by decide)
theorem and1 (x:Int):bits .and .i64 x 1=x % 2:=La x 1 1 (by omega) (by decide)
theorem y4O (a b:Nat) (ha:a<9223372036854775808) (hb:b<9223372036854775808):bits .xor .i64 (a:Int) (b:Int)=((a ^^^ b:Nat):Int):=by show IntKind.i64.wrap ((BitVec.ofInt 64 (a:Int) ^^^ BitVec.ofInt 64 (b:Int)).toNat:Int)=_;rw [BitVec.toNat_xor,BitVec.ofInt_natCast,BitVec.ofInt_natCast,BitVec.toNat_ofNat,BitVec.toNat_ofNat,rX (by omega),rX (by omega)];exact wrap_small _ (NK (n:=63) ha hb)
theorem yec (a b:Nat) (ha:a<9223372036854775808) (hb:b<9223372036854775808):bits .or .i64 (a:Int) (b:Int)=((a|||b:Nat):Int):=by show IntKind.i64.wrap ((BitVec.ofInt 64 (a:Int)|||BitVec.ofInt 64 (b:Int)).toNat:Int)=_;rw [BitVec.toNat_or,BitVec.ofInt_natCast,BitVec.ofInt_natCast,BitVec.toNat_ofNat,BitVec.toNat_ofNat,rX (by omega),rX (by omega)];exact wrap_small _ (Nat.or_lt_two_pow (n:=63) ha hb)
theorem xA (j:Nat) (hj:j≤62) (a b:Int) (h0:0≤a) (h1:a*2 ^ j<9223372036854775808) (hb0:0≤b) (hb1:b<2 ^ j):bits .or .i64 (a*2 ^ j) b=a*2 ^ j+b:=by
 obtain ⟨a,rfl⟩:=Ep h0;obtain ⟨b,rfl⟩:=Ep hb0;have e2:((2:Int) ^ j)=((2 ^ j:Nat):Int):=by rw [Int.natCast_pow];rfl
 have hb1':b<2 ^ j:=by rw [e2] at hb1;exact Int.ofNat_lt.1 hb1
 have e:(a:Int)*2 ^ j=((a*2 ^ j:Nat):Int):=by rw [e2,Int.natCast_mul]
 rw [e] at h1 ⊢;have ha:a*2 ^ j<9223372036854775808:=Int.ofNat_lt.1 h1;have hor:a*2 ^ j|||b=a*2 ^ j+b:=by rw [← Nat.shiftLeft_eq,Nat.shiftLeft_add_eq_or_of_lt hb1']
 have h62:2 ^ j≤2 ^ 62:=uI (by omega) hj;have hbl:b<9223372036854775808:=by omega
 rw [yec _ _ ha hbl,hor,Int.natCast_add]
theorem sG (x y:Int) (hx0:0≤x) (hx1:x<4294967296) (hy0:0≤y) (hy1:y<4294967296):0≤bits .xor .i64 x y∧bits .xor .i64 x y<4294967296:=by obtain ⟨a,rfl⟩:=Ep hx0;obtain ⟨b,rfl⟩:=Ep hy0;rw [y4O a b (by omega) (by omega)];have:=NK (n:=32) (x:=a) (y:=b) (by omega) (by omega);omega
def isBytes (l:List Int):Prop:= ∀ x∈l,0≤x∧x<256
def wN (l:List Int) (i:Int):Int:=l.getD i.toNat 0
theorem YQ {l:List Int} (h:isBytes l) (i:Int):0≤wN l i∧wN l i<256:=by
 unfold wN;rw [Zr];cases hl:l[i.toNat]? with
 |none=>simp
 |some x=>exact h x (aF hl)
theorem Wb {l:List Int} (h:isBytes l) (n:Nat):isBytes (l.take n):=fun x hx=>h x (lr hx)
theorem Fk {l:List Int} (h:isBytes l) (n:Nat):isBytes (l.drop n):=fun x hx=>h x (xO hx)
def sH (x:Int):Int:=if x % 2=1 then bits .xor .i64 (x / 2) 2197175160 else x / 2
def kg:Nat→Int→Int
 |0,x=>x
 |n+1,x=>kg n (sH x)
def gM (x b:Int):Int:=kg 8 (bits .xor .i64 x b)
def crc (l:List Int):Int:=bits .xor .i64 (l.foldl gM 4294967295) 4294967295
theorem gN (x:Int) (h0:0≤x) (h1:x<4294967296):0≤sH x∧sH x<4294967296:=by
 unfold sH;split
 ·exact sG _ _ (by omega) (by omega) (by omega) (by omega)
 ·omega
theorem nG: ∀ (n:Nat) (x:Int),0≤x→x<4294967296→0≤kg n x∧kg n x<4294967296
 |0,_,h0,h1=>⟨h0,h1⟩
 |n+1,x,h0,h1=>nG n _ (gN x h0 h1).1 (gN x h0 h1).2
theorem Cx (x b:Int) (h0:0≤x) (h1:x<4294967296) (hb0:0≤b) (hb1:b<256):0≤gM x b∧gM x b<4294967296:=by have:=sG x b h0 h1 hb0 (by omega);exact nG 8 _ this.1 this.2
theorem Yo {T R:Type} {step:(T→Option R)→T→Option R} (μ:T→Nat) (inv:T→Prop) (Q:T→Option R→Prop)
  (h: ∀ again t,inv t→(∀ t',inv t'→μ t'<μ t→Q t' (again t'))→Q t (step again t)) (t:T) (ht:inv t) (hn:μ t<18446744073709551616):Q t (iter step FUEL t):=by
 have key: ∀ (n:Nat) (t:T),inv t→μ t<n→Q t (iter step n t):=by
  intro n;induction n with
  |zero=>intro t _ hn;omega
  |succ n ih=>intro t ht hn;rw [iter];exact h _ t ht fun t' ht' hlt=>ih t' ht' (by omega)
 exact key FUEL t ht (by rw [Zz];exact hn)
theorem re {A:Type} (da:A) (l:List A) (i:Int) (h0:0≤i) (h:i<l.length):l.getD i.toNat da=l[i.toNat]'(by omega):=by rw [Zr,WX (by omega)];rfl
theorem zz {A:Type} (da:A) (l:List A) (i:Int) (h0:0≤i) (h:i<l.length):l.getD i.toNat da∈l:=by rw [re da l i h0 h];exact uN _
theorem ZW {A:Type} (da:A) (l:List A) (i:Int) (h0:0≤i) (h:i<l.length):l.drop i.toNat=l.getD i.toNat da::l.drop (i+1).toNat:=by rw [re da l i h0 h,show (i+1).toNat=i.toNat+1 by omega,← List.drop_eq_getElem_cons]
def Yh {A:Type} (w:A→Int) (l:List A):Int:=l.foldr (fun a s=>w a+s) 0
theorem Yp {A:Type} (w:A→Int) (a:A) (l:List A):Yh w (a::l)=w a+Yh w l:=rfl
theorem az {A:Type} {w:A→Int} (hw: ∀ a,0≤w a): ∀ {l:List A} {a:A},a∈l→w a≤Yh w l∧0≤Yh w l
 |b::l,a,h=>by
  have hs:0≤Yh w l:=by
   clear h;induction l with
   |nil=>exact yP _
   |cons c l ih=>rw [Yp];have:=hw c;omega
  rw [Yp];have:=hw b;rcases yR.1 h with rfl|h
  ·omega
  ·have:=(az hw h).1;omega
theorem kO {A:Type} {w:A→Int} (hw: ∀ a,0≤w a) (l:List A):0≤Yh w l:=by
 induction l with
 |nil=>exact yP _
 |cons c l ih=>rw [Yp];have:=hw c;omega
theorem Z7 {T A S R:Type} {step:(T→Option R)→T→Option R} (mk:Int→S→T) (k:S→Option R) (da:A) (g:S→A→S) (l:List A) (hl:l.length≤1099511627776) (I:Nat→S→Prop)
  (h: ∀ again i s,0≤i→i<(l.length:Int)→I i.toNat s→step again (mk i s)=again (mk (i+1) (g s (l.getD i.toNat da)))∧I (i.toNat+1) (g s (l.getD i.toNat da)))
  (hd: ∀ again i s,¬ i<(l.length:Int)→step again (mk i s)=k s) (s:S) (hs:I 0 s):iter step FUEL (mk 0 s)=k (l.foldl g s):=by
 have key: ∀ (n:Nat) (i:Int) (s:S),0≤i→i≤l.length→I i.toNat s→l.length - i.toNat<n→iter step n (mk i s)=k ((l.drop i.toNat).foldl g s):=by
  intro n;induction n with
  |zero=>intro i s _ _ _ hn;omega
  |succ n ih=>
   intro i s h0 h1 hI hn;rw [iter];by_cases hi:i<(l.length:Int)
   ·obtain ⟨e,hI'⟩:=h (iter step n) i s h0 hi hI;have e1:(i+1).toNat=i.toNat+1:=by omega
    rw [e,ih (i+1) _ (by omega) (by omega) (by rw [e1];exact hI') (by omega),ZW da l i h0 hi];rfl
   ·rw [hd _ i s hi,aE (by omega)];rfl
 have:=key FUEL 0 s (by omega) (by omega) hs (by rw [Zz];simp;omega);simpa using this
def qF (c k:y7):Bool:=if c.1<k.1 then true else if c.1=k.1 then decide (c.2.1<k.2.1) else false
def qG (c k:y7):Bool:=decide (c.1=k.1)&&decide (c.2.1=k.2.1)
theorem iZ (a1 a2 a3 a4 a5 b1 b2 b3 b4 b5:Int):kr (a1,a2,a3,a4,a5,b1,b2,b3,b4,b5)=some (qF (a1,a2,a3,a4,a5) (b1,b2,b3,b4,b5)):=by
 unfold kr qF nz;by_cases h:a1=b1
 ·subst h;simp
 ·have hb:(a1==b1)=false:=by simpa using h
  have hb':(a1 !=b1)=true:=by simpa using h
  by_cases h2:a1<b1<;>simp [h,h2,hb,hb']
theorem i_ (a1 a2 a3 a4 a5 b1 b2 b3 b4 b5:Int):kB (a1,a2,a3,a4,a5,b1,b2,b3,b4,b5)=some (qF (a1,a2,a3,a4,a5) (b1,b2,b3,b4,b5)):=by
 unfold kB qF nz;by_cases h:a1=b1
 ·subst h;simp
 ·have hb:(a1==b1)=false:=by simpa using h
  have hb':(a1 !=b1)=true:=by simpa using h
  by_cases h2:a1<b1<;>simp [h,h2,hb,hb']
theorem sI (a1 a2 a3 a4 a5 b1 b2 b3 b4 b5:Int):Wj (a1,a2,a3,a4,a5,b1,b2,b3,b4,b5)=some (qG (a1,a2,a3,a4,a5) (b1,b2,b3,b4,b5)):=by unfold Wj qG nz;have e1:(a1==b1)=decide (a1=b1):=rfl;have e2:(a2==b2)=decide (a2=b2):=rfl;simp only [e1,e2];cases decide (a1=b1)<;>cases decide (a2=b2)<;>rfl
theorem sJ (a1 a2 a3 a4 a5 b1 b2 b3 b4 b5:Int):Ww (a1,a2,a3,a4,a5,b1,b2,b3,b4,b5)=some (qG (a1,a2,a3,a4,a5) (b1,b2,b3,b4,b5)):=by unfold Ww qG nz;have e1:(a1==b1)=decide (a1=b1):=rfl;have e2:(a2==b2)=decide (a2=b2):=rfl;simp only [e1,e2];cases decide (a1=b1)<;>cases decide (a2=b2)<;>rfl
theorem y4P {n k:Nat} (h:n≤1073741825) (hk:(1073741825+k)*40<140737488355328):(n+k)*40<140737488355328:=by omega
def Zq (k:y7) (s:Bool×List y7) (c:y7):Bool×List y7:=
 if s.1=false∧qF c k=false then (true,if qG c k then s.2++[k] else s.2++[k]++[c]) else (s.1,if qG c k then s.2 else s.2++[c])
def JU (l:List y7) (k:y7):List y7:=
 let r:=l.foldl (Zq k) (false,[])
 if r.1 then r.2 else r.2++[k]
def pN (p:Bool):Nat:=if p then 1 else 0
theorem sK (k:y7) (s:Bool×List y7) (c:y7):(Zq k s c).2.length+pN s.1≤s.2.length+1+pN (Zq k s c).1∧pN (Zq k s c).1≤1:=by unfold Zq pN;obtain ⟨p,o⟩:=s;cases p<;>cases qF c k<;>cases qG c k<;>simp
theorem gO (k:y7): ∀ (l:List y7) (s:Bool×List y7),(l.foldl (Zq k) s).2.length+pN s.1≤s.2.length+l.length+pN (l.foldl (Zq k) s).1
 |[],s=>by simp
 |c::l,s=>by have h1:=(sK k s c).1;have h2:=gO k l (Zq k s c);simp only [Zl,yp] at h2 ⊢;omega
theorem kP (l:List y7) (k:y7):(JU l k).length≤l.length+1:=by
 have h:=gO k l (false,[]);unfold JU;simp only [pN,yr,J6,zP] at h ⊢;cases hr:(l.foldl (Zq k) (false,[])).1 with
 |true=>rw [hr] at h;simp at h ⊢;omega
 |false=>rw [hr] at h;simp at h ⊢;omega
theorem sL {R:Type} (k0:Bool×Int×Int×Int×Int×Int×List y7→Option R) (again:vb→Option R) (l:List y7) (i:Int) (p:Bool) (a b c d e:Int) (o:List y7) (hl:l.length≤1073741824) (h0:0≤i) (h1:i<(l.length:Int)) (ho:o.length≤1073741825):
  j7 k0 again (l,p,i,a,b,c,d,e,o)=again (l,(Zq (a,b,c,d,e) (p,o) (l.getD i.toNat zx)).1,i+1,a,b,c,d,e,(Zq (a,b,c,d,e) (p,o) (l.getD i.toNat zx)).2):=by
 have hw:Go.IntKind.wrap .i64 (i+1)=i+1:=zb (by omega) (by omega);have c1:(o.length+(0+1))*40<140737488355328:=y4P ho (by decide);have c2:(o.length+(0+1)+(0+1))*40<140737488355328:=by rw [cN];exact y4P ho (by decide)
 obtain ⟨⟨x1,x2,x3,x4,x5⟩,hx⟩: ∃ x,yy l i=x:=⟨_,rfl⟩
 have hx':l.getD i.toNat zx=(x1,x2,x3,x4,x5):=hx;rw [hx'];unfold j7 nz;simp only [yl,ym,h0,h1,yo,hw,hx,iZ,sI,zzal0,yU,yp,yr];unfold Zq;generalize qF (x1,x2,x3,x4,x5) (a,b,c,d,e)=q1;generalize qG (x1,x2,x3,x4,x5) (a,b,c,d,e)=q2;simp only [c1,c2,yo];cases p<;>cases q1<;>cases q2<;>rfl
theorem sM {R:Type} (k0:Bool×Int×Int×Int×Int×Int×List y7→Option R) (l:List y7) (a b c d e:Int) (hl:l.length≤1073741824):
  aR k0 (l,false,0,a,b,c,d,e,[])=k0 ((l.foldl (Zq (a,b,c,d,e)) (false,[])).1,a,b,c,d,e,(l.foldl (Zq (a,b,c,d,e)) (false,[])).2):=by
 unfold aR;refine Z7 (step:=j7 k0) (fun (i:Int) (s:Bool×List y7)=>(l,s.1,i,a,b,c,d,e,s.2)) (fun s=>k0 (s.1,a,b,c,d,e,s.2)) zx (Zq (a,b,c,d,e)) l (by omega) (fun i s=>s.2.length≤i+pN s.1) ?_ ?_ (false,[]) (by simp)
 ·rintro again i ⟨p,o⟩ h0 h1 hI;have hp:pN p≤1:=by cases p<;>decide
  have hI':o.length≤i.toNat+pN p:=hI;clear hI;refine ⟨sL k0 again l i p a b c d e o hl h0 h1 (by omega),?_⟩;have ho:=(sK (a,b,c,d,e) (p,o) (l.getD i.toNat zx)).1;show (Zq (a,b,c,d,e) (p,o) (l.getD i.toNat zx)).2.length≤i.toNat+1+pN (Zq (a,b,c,d,e) (p,o) (l.getD i.toNat zx)).1;generalize (Zq (a,b,c,d,e) (p,o) (l.getD i.toNat zx))=r at ho ⊢;simp only at ho;omega
 ·rintro again i ⟨p,o⟩ hi;show j7 k0 again (l,p,i,a,b,c,d,e,o)=_;unfold j7 nz;simp only [yl,ym,y9 hi]
theorem kQ (l:List y7) (a b c d e:Int) (hl:l.length≤1073741824):Yk (l,a,b,c,d,e)=some (JU l (a,b,c,d,e)):=by
 have hlen:=gO (a,b,c,d,e) l (false,[]);unfold Yk JU nz;rw [sM _ l a b c d e hl];generalize l.foldl (Zq (a,b,c,d,e)) (false,[])=r at hlen ⊢;obtain ⟨q,o⟩:=r;cases q with
 |true=>rfl
 |false=>simp only [pN,yr,J6,zP] at hlen;simp only [Yd,yg,yp,yr,J6,zP];rw [y0 (by omega)]
theorem sN {R:Type} (k0:Bool×Int×Int×Int×Int×Int×List y7→Option R) (again:vF→Option R) (l:List y7) (i:Int) (p:Bool) (a b c d e:Int) (o:List y7) (hl:l.length≤1073741824) (h0:0≤i) (h1:i<(l.length:Int)) (ho:o.length≤1073741825):
  jc k0 again (p,l,(l.length:Int),i,a,b,c,d,e,o)=again ((Zq (a,b,c,d,e) (p,o) (l.getD i.toNat zx)).1,l,(l.length:Int),i+1,a,b,c,d,e,(Zq (a,b,c,d,e) (p,o) (l.getD i.toNat zx)).2):=by
 have hw:Go.IntKind.wrap .i64 (i+1)=i+1:=zb (by omega) (by omega);have c1:(o.length+(0+1))*40<140737488355328:=y4P ho (by decide);have c2:(o.length+(0+1)+(0+1))*40<140737488355328:=by rw [cN];exact y4P ho (by decide)
 obtain ⟨⟨x1,x2,x3,x4,x5⟩,hx⟩: ∃ x,yy l i=x:=⟨_,rfl⟩
 have hx':l.getD i.toNat zx=(x1,x2,x3,x4,x5):=hx;rw [hx'];unfold jc nz;simp only [yl,ym,h0,h1,yo,hw,hx,i_,sJ,zzal0,yU,yp,yr];unfold Zq;generalize qF (x1,x2,x3,x4,x5) (a,b,c,d,e)=q1;generalize qG (x1,x2,x3,x4,x5) (a,b,c,d,e)=q2;simp only [c1,c2,yo];cases p<;>cases q1<;>cases q2<;>rfl
theorem sQ {R:Type} (k0:Bool×Int×Int×Int×Int×Int×List y7→Option R) (l:List y7) (a b c d e:Int) (hl:l.length≤1073741824):
  br k0 (false,l,(l.length:Int),0,a,b,c,d,e,[])=k0 ((l.foldl (Zq (a,b,c,d,e)) (false,[])).1,a,b,c,d,e,(l.foldl (Zq (a,b,c,d,e)) (false,[])).2):=by
 unfold br;refine Z7 (step:=jc k0) (fun (i:Int) (s:Bool×List y7)=>(s.1,l,(l.length:Int),i,a,b,c,d,e,s.2)) (fun s=>k0 (s.1,a,b,c,d,e,s.2)) zx (Zq (a,b,c,d,e)) l (by omega) (fun i s=>s.2.length≤i+pN s.1) ?_ ?_ (false,[]) (by simp)
 ·rintro again i ⟨p,o⟩ h0 h1 hI;have hp:pN p≤1:=by cases p<;>decide
  have hI':o.length≤i.toNat+pN p:=hI;clear hI;refine ⟨sN k0 again l i p a b c d e o hl h0 h1 (by omega),?_⟩;have ho:=(sK (a,b,c,d,e) (p,o) (l.getD i.toNat zx)).1;show (Zq (a,b,c,d,e) (p,o) (l.getD i.toNat zx)).2.length≤i.toNat+1+pN (Zq (a,b,c,d,e) (p,o) (l.getD i.toNat zx)).1;generalize (Zq (a,b,c,d,e) (p,o) (l.getD i.toNat zx))=r at ho ⊢;simp only at ho;omega
 ·rintro again i ⟨p,o⟩ hi;show jc k0 again (p,l,(l.length:Int),i,a,b,c,d,e,o)=_;unfold jc nz;simp only [yl,ym,y9 hi]
theorem Be (l:List y7) (a b c d e:Int) (hl:l.length≤1073741824):QP (l,a,b,c,d,e)=some (JU l (a,b,c,d,e)):=by
 have hlen:=gO (a,b,c,d,e) l (false,[]);unfold QP JU nz;rw [sQ _ l a b c d e hl];generalize l.foldl (Zq (a,b,c,d,e)) (false,[])=r at hlen ⊢;obtain ⟨q,o⟩:=r;cases q with
 |true=>rfl
 |false=>simp only [pN,yr,J6,zP] at hlen;simp only [Yd,yg,yp,yr,J6,zP];rw [y0 (by omega)]
def KY (l:List yc):Int:=(List.length l:Int)+Yh (fun a:yc=>(List.length a:Int)) l
theorem qH (l:List yc):0≤KY l:=by have:=kO (w:=fun a:yc=>(List.length a:Int)) (fun a=>uK _) l;unfold KY;omega
def wJ (a b:List y7):List y7:=b.foldl JU a
theorem gP: ∀ (b a:List y7),(wJ a b).length≤a.length+b.length
 |[],a=>by simp [wJ]
 |c::b,a=>by have h:=gP b (JU a c);have h2:=kP a c;unfold wJ at h ⊢;simp only [Zl,yp] at h ⊢;omega
def qI (s:List y7) (c:y7):List y7:=if c.2.2.1=0 then s else s++[c]
def m7 (l:List y7):List y7:=l.foldl qI []
theorem m8 (s:List y7) (c:y7):(qI s c).length≤s.length+1:=by unfold qI;split<;>simp
theorem sR: ∀ (l s:List y7),(l.foldl qI s).length≤s.length+l.length
 |[],s=>by simp
 |c::l,s=>by have h:=sR l (qI s c);have h2:=m8 s c;simp only [Zl,yp];omega
def J8 (a:yc):Int:=(List.length a:Int)
theorem Ve (a:yc):0≤J8 a:=uK _
def zm (n:List yc):List y7:=m7 (n.foldl wJ [])
theorem mP: ∀ (n:List yc) (s:List y7),((n.foldl wJ s).length:Int)≤s.length+Yh J8 n
 |[],s=>by simp [Yh]
 |c::n,s=>by have h:=mP n (wJ s c);have h2:=gP c s;simp only [Zl,Yp,J8];omega
theorem Qr (n:List yc):((zm n).length:Int)≤Yh J8 n:=by have h:=sR (n.foldl wJ []) [];have h2:=mP n [];unfold zm m7;simp only [yr] at h h2;omega
theorem m9 (n:List yc):Yh J8 n≤KY n:=by show Yh (fun a:yc=>(List.length a:Int)) n≤(List.length n:Int)+Yh (fun a:yc=>(List.length a:Int)) n;omega
def vK (s:List y7) (n:y6):List y7:=s++zm n
def zV (t:List y6):List y7:=t.foldl vK []
theorem rf (a b:List y7) (h:a.length+b.length≤1073741824):wc (a,b)=some (wJ a b):=by
 unfold wc cX nz;simp only [yr,WY,jj];rw [y0 (by omega)];refine Z7 (step:=jQ _) (fun (i:Int) (s:List y7)=>(b,i,s)) (fun s=>some s) zx JU b (by omega) (fun i s=>s.length≤a.length+i) ?_ ?_ a (by simp)
 ·intro again i s h0 h1 hI;have hw:Go.IntKind.wrap .i64 (i+1)=i+1:=zb (by omega) (by omega);have hs:=kP s (b.getD i.toNat zx);have e:=kQ s (yy b i).1 (yy b i).2.1 (yy b i).2.2.1 (yy b i).2.2.2.1 (yy b i).2.2.2.2 (by omega);refine ⟨?_,by omega⟩;unfold jQ nz;simp only [yl,ym,h0,h1,yo,hw,e,zzal0];rfl
 ·intro again i s hi;unfold jQ nz;simp only [yl,ym,y9 hi]
theorem gQ (l:List y7) (h:l.length≤1073741824):Z5 l=some (m7 l):=by
 unfold Z5 nD nz;refine Z7 (step:=KI _) (fun (i:Int) (s:List y7)=>(l,i,s)) (fun s=>some s) zx qI l (by omega) (fun i s=>s.length≤i) ?_ ?_ [] (by simp)
 ·intro again i s h0 h1 hI;have hw:Go.IntKind.wrap .i64 (i+1)=i+1:=zb (by omega) (by omega);have hs:=m8 s (l.getD i.toNat zx);refine ⟨?_,by omega⟩;have c1:(s.length+1)*40<140737488355328:=by omega
  clear hs;unfold KI qI nz;obtain ⟨⟨x1,x2,x3,x4,x5⟩,hx⟩: ∃ x,yy l i=x:=⟨_,rfl⟩
  have hx':l.getD i.toNat zx=(x1,x2,x3,x4,x5):=hx;rw [hx'];simp only [yl,ym,h0,h1,yo,hw,hx,yp,yr,WY,c1];by_cases h3:x3=0
  ·rw [y9 (by simpa using h3),y0 h3]
  ·rw [y0 (by simpa using h3),y9 h3]
 ·intro again i s hi;unfold KI nz;simp only [yl,ym,y9 hi]
theorem jC (n:List yc) (hn:n.length≤1073741824) (h:Yh J8 n≤1048576):z7 n=some (zm n):=by
 have hlen:=mP n [];simp only [yr] at hlen;have hD:=gQ (n.foldl wJ []) (by omega);unfold z7 d_ nz;refine (Z7 (step:=Jm _) (fun (i:Int) (s:List y7)=>(i,n,s)) (fun s=>Option.bind (Z5 s) fun r3=>some r3) zN wJ n (by omega) (fun i s=>(s.length:Int)+Yh J8 (n.drop i)≤Yh J8 n) ?_ ?_ [] (by simp)).trans ?_
 ·intro again i s h0 h1 hI;have hw:Go.IntKind.wrap .i64 (i+1)=i+1:=zb (by omega) (by omega);rw [ZW zN n i h0 h1,Yp,show (i+1).toNat=i.toNat+1 by omega] at hI;have hnn:=kO Ve (n.drop (i.toNat+1));have hm:=gP (n.getD i.toNat zN) s;have hk:J8 (n.getD i.toNat zN)=(List.length (n.getD i.toNat zN):Int):=rfl;have e:wc (s,yK n i)=some (wJ s (yK n i)):=rf s _ (by show s.length+List.length (n.getD i.toNat zN)≤_;omega);refine ⟨?_,by omega⟩;unfold Jm nz;simp only [yl,ym,h0,h1,yo,hw,e,zzal0];rfl
 ·intro again i s hi;unfold Jm nz;simp only [yl,ym,y9 hi]
 ·rw [hD];rfl
theorem Zw (q:List Int) (t:List y6) (ht:t.length≤1073741824) (hm: ∀ n∈t,List.length n≤1073741824) (h:Yh KY t≤1048576):zA (q,t)=some (zV t):=by
 unfold zA ef nz;refine Z7 (step:=Jn _) (fun (i:Int) (s:List y7)=>(i,q,t,s)) (fun s=>some s) y_ vK t (by omega) (fun i s=>(s.length:Int)+Yh KY (t.drop i)≤Yh KY t) ?_ ?_ [] (by simp)
 ·intro again i s h0 h1 hI;have hw:Go.IntKind.wrap .i64 (i+1)=i+1:=zb (by omega) (by omega);rw [ZW y_ t i h0 h1,Yp,show (i+1).toNat=i.toNat+1 by omega] at hI;have hnn:=kO qH (t.drop (i.toNat+1));have hge:=m9 (t.getD i.toNat y_);have hk:=Qr (t.getD i.toNat y_);have e:z7 (yt t i)=some (zm (yt t i)):=jC _ (hm _ (zz y_ t i h0 h1)) (by show Yh J8 (t.getD i.toNat y_)≤_;omega);have hT:(vK s (t.getD i.toNat y_)).length=s.length+(zm (t.getD i.toNat y_)).length:=yU;have c1:(s.length+(zm (yt t i)).length)*40<140737488355328:=by
   show (s.length+(zm (t.getD i.toNat y_)).length)*40<140737488355328;generalize (zm (t.getD i.toNat y_)).length=m at hk ⊢;clear hT e;have:s.length+m≤1048576:=by omega
   omega
  refine ⟨?_,by rw [hT];omega⟩;unfold Jn nz;simp only [yl,ym,h0,h1,yo,hw,e,zzal0,c1];rfl
 ·intro again i s hi;unfold Jn nz;simp only [yl,ym,y9 hi]
theorem rh (a b:List y7) (h:a.length+b.length≤1073741824):wv (a,b)=some (wJ a b):=by
 unfold wv bq dh nz;simp only [yr,WY,jj];rw [y0 (by omega),zzal0];refine Z7 (step:=jW _) (fun (i:Int) (s:List y7)=>(b,(b.length:Int),i,s)) (fun s=>some s) zx JU b (by omega) (fun i s=>s.length≤a.length+i) ?_ ?_ a (by simp)
 ·intro again i s h0 h1 hI;have hw:Go.IntKind.wrap .i64 (i+1)=i+1:=zb (by omega) (by omega);have hs:=kP s (b.getD i.toNat zx);have e:=Be s (yy b i).1 (yy b i).2.1 (yy b i).2.2.1 (yy b i).2.2.2.1 (yy b i).2.2.2.2 (by omega);refine ⟨?_,by omega⟩;unfold jW nz;simp only [yl,ym,h0,h1,yo,hw,e,zzal0];rfl
 ·intro again i s hi;unfold jW nz;simp only [yl,ym,y9 hi]
theorem Fl (l:List y7) (h:l.length≤1073741824):ax l=some (m7 l):=by
 unfold ax nF nz;refine Z7 (step:=KT _) (fun (i:Int) (s:List y7)=>(l,(l.length:Int),i,s)) (fun s=>some s) zx qI l (by omega) (fun i s=>s.length≤i) ?_ ?_ [] (by simp)
 ·intro again i s h0 h1 hI;have hw:Go.IntKind.wrap .i64 (i+1)=i+1:=zb (by omega) (by omega);have hs:=m8 s (l.getD i.toNat zx);refine ⟨?_,by omega⟩;have c1:(s.length+1)*40<140737488355328:=by omega
  clear hs;unfold KT qI nz;obtain ⟨⟨x1,x2,x3,x4,x5⟩,hx⟩: ∃ x,yy l i=x:=⟨_,rfl⟩
  have hx':l.getD i.toNat zx=(x1,x2,x3,x4,x5):=hx;rw [hx'];simp only [yl,ym,h0,h1,yo,hw,hx,yp,yr,WY,c1];by_cases h3:x3=0
  ·rw [y9 (by simpa using h3),y0 h3]
  ·rw [y0 (by simpa using h3),y9 h3]
 ·intro again i s hi;unfold KT nz;simp only [yl,ym,y9 hi]
theorem fR (n:List yc) (hn:n.length≤1073741824) (h:Yh J8 n≤1048576):jd n=some (zm n):=by
 have hlen:=mP n [];simp only [yr] at hlen;have hD:=Fl (n.foldl wJ []) (by omega);unfold jd eu nz;refine (Z7 (step:=Jt _) (fun (i:Int) (s:List y7)=>(n,(n.length:Int),i,s)) (fun s=>Option.bind (ax s) fun r3=>some r3) zN wJ n (by omega) (fun i s=>(s.length:Int)+Yh J8 (n.drop i)≤Yh J8 n) ?_ ?_ [] (by simp)).trans ?_
 ·intro again i s h0 h1 hI;have hw:Go.IntKind.wrap .i64 (i+1)=i+1:=zb (by omega) (by omega);rw [ZW zN n i h0 h1,Yp,show (i+1).toNat=i.toNat+1 by omega] at hI;have hnn:=kO Ve (n.drop (i.toNat+1));have hm:=gP (n.getD i.toNat zN) s;have hk:J8 (n.getD i.toNat zN)=(List.length (n.getD i.toNat zN):Int):=rfl;have e:wv (s,yK n i)=some (wJ s (yK n i)):=rh s _ (by show s.length+List.length (n.getD i.toNat zN)≤_;omega);refine ⟨?_,by omega⟩;unfold Jt nz;simp only [yl,ym,h0,h1,yo,hw,e,zzal0];rfl
 ·intro again i s hi;unfold Jt nz;simp only [yl,ym,y9 hi]
 ·rw [hD];rfl
theorem sS (q:List Int) (t:List y6) (ht:t.length≤1073741824) (hm: ∀ n∈t,List.length n≤1073741824) (h:Yh KY t≤1048576):WB (q,t)=some (zV t):=by
 unfold WB eC nz;refine Z7 (step:=Ju _) (fun (i:Int) (s:List y7)=>(t,(t.length:Int),i,s)) (fun s=>some s) y_ vK t (by omega) (fun i s=>(s.length:Int)+Yh KY (t.drop i)≤Yh KY t) ?_ ?_ [] (by simp)
 ·intro again i s h0 h1 hI;have hw:Go.IntKind.wrap .i64 (i+1)=i+1:=zb (by omega) (by omega);rw [ZW y_ t i h0 h1,Yp,show (i+1).toNat=i.toNat+1 by omega] at hI;have hnn:=kO qH (t.drop (i.toNat+1));have hge:=m9 (t.getD i.toNat y_);have hk:=Qr (t.getD i.toNat y_);have e:jd (yt t i)=some (zm (yt t i)):=fR _ (hm _ (zz y_ t i h0 h1)) (by show Yh J8 (t.getD i.toNat y_)≤_;omega);have hT:(vK s (t.getD i.toNat y_)).length=s.length+(zm (t.getD i.toNat y_)).length:=yU;have c1:(s.length+(zm (yt t i)).length)*40<140737488355328:=by
   show (s.length+(zm (t.getD i.toNat y_)).length)*40<140737488355328;generalize (zm (t.getD i.toNat y_)).length=m at hk ⊢;clear hT e;have:s.length+m≤1048576:=by omega
   omega
  refine ⟨?_,by rw [hT];omega⟩;unfold Ju nz;simp only [yl,ym,h0,h1,yo,hw,e,zzal0,c1];rfl
 ·intro again i s hi;unfold Ju nz;simp only [yl,ym,y9 hi]
def small (is:List yf) (ns:List y6) (ags:List yb) (cs:List ya) (vs:List yj):Prop:=
 is.length≤1048576∧ns.length≤1048576∧Yh KY ns≤1048576∧ags.length≤1048576∧cs.length≤1048576∧vs.length≤1048576
theorem vY {ns:List y6} (h:Yh KY ns≤1048576) {n:List yc} (hn:n∈ns):n.length≤1048576∧ ∀ s∈n,List.length s≤1048576:=by have h1:=(az qH hn).1;have h2:=kO Ve n;have h3:KY n=(List.length n:Int)+Yh J8 n:=rfl;refine ⟨by omega,fun s hs=> ?_⟩;have h4:=(az Ve hs).1;have h5:J8 s=(List.length s:Int):=rfl;omega
def ma {S A R:Type} (g:Int→S→A→Except (Option R) S) (k:S→Option R):List A→Int→S→Option R
 |[],_,s=>k s
 |a::l,i,s=>match g i s a with
  | .error r=>r
  | .ok s'=>ma g k l (i+1) s'
theorem DP {T A S R:Type} {step:(T→Option R)→T→Option R} (mk:Int→S→T) (g:Int→S→A→Except (Option R) S) (k:S→Option R) (da:A) (l:List A) (hl:l.length≤1099511627776) (I:Nat→S→Prop)
  (h: ∀ again i s,0≤i→i<(l.length:Int)→I i.toNat s→(step again (mk i s)=match g i s (l.getD i.toNat da) with
   | .error r=>r
   | .ok s'=>again (mk (i+1) s'))∧ ∀ s',g i s (l.getD i.toNat da)= .ok s'→I (i.toNat+1) s')
  (hd: ∀ again i s,¬ i<(l.length:Int)→step again (mk i s)=k s) (s:S) (hs:I 0 s):iter step FUEL (mk 0 s)=ma g k l 0 s:=by
 have key: ∀ (n:Nat) (i:Int) (s:S),0≤i→i≤l.length→I i.toNat s→l.length - i.toNat<n→iter step n (mk i s)=ma g k (l.drop i.toNat) i s:=by
  intro n;induction n with
  |zero=>intro i s _ _ _ hn;omega
  |succ n ih=>
   intro i s h0 h1 hI hn;rw [iter];by_cases hi:i<(l.length:Int)
   ·obtain ⟨e,hI'⟩:=h (iter step n) i s h0 hi hI;have e1:(i+1).toNat=i.toNat+1:=by omega
    rw [e,ZW da l i h0 hi,ma];cases hg:g i s (l.getD i.toNat da) with
    |error r=>rfl
    |ok s'=>exact ih (i+1) s' (by omega) (by omega) (by rw [e1];exact hI' s' hg) (by omega)
   ·rw [hd _ i s hi,aE (by omega)];rfl
 have:=key FUEL 0 s (by omega) (by omega) hs (by rw [Zz];simp;omega);simpa using this
def Zb {A:Type} (p:A→Bool):List A→Int→Int
 |[],_=> -1
 |a::l,i=>if p a then i else Zb p l (i+1)
theorem DQ {A R:Type} (p:A→Bool) (hit:Int→Option R) (miss:Option R): ∀ (l:List A) (i:Int),0≤i→ma (fun i (_:Unit) a=>if p a then .error (hit i) else .ok ()) (fun _=>miss) l i ()=if Zb p l i<0 then miss else hit (Zb p l i)
 |[],i,_=>by simp [ma,Zb]
 |a::l,i,h=>by
  rw [ma,Zb];by_cases hp:p a=true
  ·rw [y0 hp,y0 hp,y9 (by omega)]
  ·rw [y9 hp,y9 hp];exact DQ p hit miss l (i+1) (by omega)
theorem Kr {T A R:Type} {step:(T→Option R)→T→Option R} (mk:Int→T) (p:A→Bool) (hit:Int→Option R) (miss:Option R) (da:A) (l:List A) (hl:l.length≤1099511627776)
  (h: ∀ again i,0≤i→i<(l.length:Int)→step again (mk i)=if p (l.getD i.toNat da) then hit i else again (mk (i+1)))
  (hd: ∀ again i,¬ i<(l.length:Int)→step again (mk i)=miss):iter step FUEL (mk 0)=if Zb p l 0<0 then miss else hit (Zb p l 0):=by
 rw [← DQ p hit miss l 0 (yP _)];refine DP (fun i (_:Unit)=>mk i) _ _ da l hl (fun _ _=>True) (fun again i s h0 h1 _=>⟨?_,fun _ _=>trivial⟩) (fun again i s hi=>hd again i hi) () trivial;rw [h again i h0 h1];cases p (l.getD i.toNat da)<;>rfl
theorem du {A:Type} (p:A→Bool) (da:A): ∀ (l:List A) (i:Int),0≤i→Zb p l i= -1∨(i≤Zb p l i∧Zb p l i<i+l.length∧p (l.getD (Zb p l i - i).toNat da)=true)
 |[],i,_=> .inl rfl
 |a::l,i,h=>by
  rw [Zb];by_cases hp:p a=true
  ·rw [y0 hp];refine .inr ⟨yP _,by simp only [yp];omega,?_⟩;simpa using hp
  ·rw [y9 hp];rcases du p da l (i+1) (by omega) with e|⟨e1,e2,e3⟩
   ·exact .inl e
   ·refine .inr ⟨by omega,by simp only [yp];omega,?_⟩;rw [show (Zb p l (i+1) - i).toNat=(Zb p l (i+1) - (i+1)).toNat+1 by omega,rU];exact e3
def Yr (l:List yb) (id:Int):Int:=Zb (fun a:yb=>a.1==id) l 0
theorem oe (l:List yb) (id:Int):Yr l id= -1∨(0≤Yr l id∧Yr l id<l.length∧(l.getD (Yr l id).toNat YR).1=id):=by
 rcases du (fun a:yb=>a.1==id) YR l 0 (yP _) with h|⟨h1,h2,h3⟩
 ·exact .inl h
 ·refine .inr ⟨h1,by simpa [Yr] using h2,?_⟩;have:=eq_of_beq h3;simpa [Yr] using this
theorem jx (l:List yb) (id:Int) (hl:l.length≤1073741824):YL (l,id)=some (Yr l id):=by
 unfold YL lU nz;refine (Kr (step:=ku _ _) (fun i=>(l,id,i)) (fun a:yb=>a.1==id) (fun x=>some x) (some (-1)) YR l (by omega) ?_ ?_).trans ?_
 ·intro again i h0 h1;have hw:Go.IntKind.wrap .i64 (i+1)=i+1:=zb (by omega) (by omega);unfold ku nz;simp only [yl,ym,h0,h1,yo,hw];rfl
 ·intro again i hi;unfold ku nz;simp only [yl,ym,y9 hi]
 ·rcases oe l id with h|⟨h1,h2,h3⟩<;>unfold Yr at*
  ·rw [h];rfl
  ·rw [y9 (by omega)]
theorem fe (l:List yb) (id:Int) (hl:l.length≤1073741824):W6 (l,id)=some (Yr l id):=by
 have key:Y7 (l,id)=some (Yr l id,id):=by
  unfold Y7 ZP nz;refine (Kr (step:=zJ _ _) (fun i=>(l,(l.length:Int),i,id)) (fun a:yb=>a.1==id) (fun x=>some (x,id)) (some (-1,id)) YR l (by omega) ?_ ?_).trans ?_
  ·intro again i h0 h1;have hw:Go.IntKind.wrap .i64 (i+1)=i+1:=zb (by omega) (by omega);unfold zJ di nz;simp only [yl,ym,h0,h1,yo,hw,zzal0];rfl
  ·intro again i hi;unfold zJ nz;simp only [yl,ym,y9 hi]
  ·rcases oe l id with h|⟨h1,h2,h3⟩<;>unfold Yr at*
   ·rw [h];rfl
   ·rw [y9 (by omega)]
 unfold W6 nz;rw [key];rfl
def y20 (l:List Int) (v:Int):Bool:=decide (0≤Zb (fun a:Int=>a==v) l 0)
theorem Lb (l:List Int) (v:Int) (hl:l.length≤1073741824):cg (l,v)=some (y20 l v):=by
 unfold cg lX nz;refine (Kr (step:=ky _ _) (fun i=>(l,v,i)) (fun a:Int=>a==v) (fun _=>some true) (some false) y5u l (by omega) ?_ ?_).trans ?_
 ·intro again i h0 h1;have hw:Go.IntKind.wrap .i64 (i+1)=i+1:=zb (by omega) (by omega);unfold ky nz;simp only [yl,ym,h0,h1,yo,hw];rfl
 ·intro again i hi;unfold ky nz;simp only [yl,ym,y9 hi]
 ·unfold y20;by_cases h:Zb (fun a:Int=>a==v) l 0<0
  ·rw [y0 h,yX (by omega)]
  ·rw [y9 h,yG (by omega)]
def l3 (l:List yb):Nat→Int→List Int
 |0,_=>[]
 |n+1,at_=>if at_<0 then [] else (l.getD at_.toNat YR).1::l3 l n (Yr l (l.getD at_.toNat YR).2)
def pathOf (l:List yb) (id:Int):List Int:=l3 l (l.length+1) (Yr l id)
theorem T4 (l:List yb) (n:Nat) (i:Int) (h:0≤i):l3 l (n+1) i=(l.getD i.toNat YR).1::l3 l n (Yr l (l.getD i.toNat YR).2):=by rw [l3,y9 (by omega)]
theorem DR (l:List yb): ∀ (n:Nat) (i:Int),(l3 l n i).length≤n
 |0,_=>by simp [l3]
 |n+1,i=>by
  rw [l3];split
  ·simp
  ·have:=DR l n (Yr l (l.getD i.toNat YR).2);simp only [yp];omega
theorem mb (l:List yb) (id:Int) (hl:l.length≤1048576):KP (l,id)=some (pathOf l id):=by
 unfold KP iC pathOf nz;rw [jx l id (by omega),zzal0];have key:=Ym (step:=vj (fun x4=>some x4)) (fun t:vi=>l.length+1 - t.2.2.length) (fun t=>t.1=l∧t.2.2.length≤l.length+1∧ ∃ id,t.2.1=Yr l id) (fun t=>some (t.2.2++l3 l (l.length+1 - t.2.2.length) t.2.1)) ?_ (l,Yr l id,[]) ⟨rfl,by simp,id,rfl⟩ (by simp;omega)
 ·simpa using key
 ·rintro again ⟨l',at_,o⟩ ⟨hll,ho,id',hid⟩ hag;simp only at hll ho hid;subst hll hid;unfold vj nz;simp only [yl,ym,yp,yr,WY];rcases oe l' id' with h|⟨h1,h2,h3⟩
  ·rw [h];have:l3 l' (l'.length+1 - o.length) (-1)=[]:=by
    cases l'.length+1 - o.length<;>simp [l3]
   simp [this]
  ·simp only [ge_iff_le,h1,yo,h2];by_cases hlen:(o.length:Int)≤(l'.length:Int)
   ·have e:=jx l' (yT l' (Yr l' id')).2 (by omega);rw [show l'.length+1 - o.length=(l'.length - o.length)+1 by omega,T4 _ _ _ h1];simp only [hlen,decide_true,zzal0,yo,e];have hl1:(o++[(yT l' (Yr l' id')).1]).length=o.length+1:=by simp
    rw [y0 (by omega),hag (l',Yr l' (yT l' (Yr l' id')).2,o++[(yT l' (Yr l' id')).1]) ⟨rfl,by show (o++[(yT l' (Yr l' id')).1]).length≤_;omega,_,rfl⟩ (by show l'.length+1 - (o++[(yT l' (Yr l' id')).1]).length<l'.length+1 - o.length;omega)];simp only [hl1];rw [show l'.length+1 - (o.length+1)=l'.length - o.length by omega,jF];rfl
   ·rw [show l'.length+1 - o.length=0 by omega];simp [hlen,l3]
theorem zK (x a b:Int):yx (x,a,b)=some (Yn x a b):=by unfold yx Yn nz;by_cases h:x≥a<;>simp [h]
theorem Yq (x a b:Int):yI (x,a,b)=some (Yn x a b):=by unfold yI Yn nz;by_cases h:x≥a<;>simp [h]
theorem bi (x y:Int):((x==y)=true)=(x=y):=by simp
def zk {A:Type} (p:Int→A→Bool):List A→Int→Bool
 |[],_=>false
 |a::l,i=>p i a||zk p l (i+1)
theorem Fm {A:Type} (p q:Int→A→Bool): ∀ (l:List A) (i:Int),zk (fun i a=>p i a||q i a) l i=(zk p l i||zk q l i)
 |[],_=>rfl
 |a::l,i=>by rw [zk,zk,zk,Fm p q l (i+1)];cases p i a<;>cases q i a<;>cases zk p l (i+1)<;>rfl
theorem Bf {A:Type} {p q:Int→A→Bool}: ∀ (l:List A) (i:Int),(∀ j a,i≤j→p j a=q j a)→zk p l i=zk q l i
 |[],_,_=>rfl
 |a::l,i,h=>by rw [zk,zk,h i a (yP _),Bf l (i+1) (fun j a hj=>h j a (by omega))]
theorem ri {A S R:Type} (p:Int→A→Bool) (f:S→A→S) (r:Option R) (k:S→Option R): ∀ (l:List A) (i:Int) (s:S),ma (fun i s a=>if p i a=true then .error r else .ok (f s a)) k l i s=if zk p l i=true then r else k (l.foldl f s)
 |[],_,_=>by simp [ma,zk]
 |a::l,i,s=>by
  rw [ma,zk];by_cases h:p i a=true
  ·simp [h]
  ·have hf:p i a=false:=by simpa using h
   simp only [hf,J6,zP,oD,Zl];exact ri p f r k l (i+1) (f s a)
theorem sT {T A S R:Type} {step:(T→Option R)→T→Option R} (mk:Int→S→T) (g:Int→S→A→Except (Option R) S) (k:S→Option R) (da:A) (l:List A) (hl:l.length≤1099511627776) (I:Nat→S→Prop)
  (h: ∀ again i s,0≤i→i<(l.length:Int)→I i.toNat s→(step again (mk i s)=match g i s (l.getD i.toNat da) with
   | .error r=>r
   | .ok s'=>again (mk (i+1) s'))∧ ∀ s',g i s (l.getD i.toNat da)= .ok s'→I (i.toNat+1) s')
  (hd: ∀ again i s,¬ i<(l.length:Int)→step again (mk i s)=k s) (i0:Int) (h00:0≤i0) (s:S) (hs:I i0.toNat s):iter step FUEL (mk i0 s)=ma g k (l.drop i0.toNat) i0 s:=by
 have key: ∀ (n:Nat) (i:Int) (s:S),0≤i→I i.toNat s→l.length - i.toNat<n→iter step n (mk i s)=ma g k (l.drop i.toNat) i s:=by
  intro n;induction n with
  |zero=>intro i s _ _ hn;omega
  |succ n ih=>
   intro i s h0 hI hn;rw [iter];by_cases hi:i<(l.length:Int)
   ·obtain ⟨e,hI'⟩:=h (iter step n) i s h0 hi hI;have e1:(i+1).toNat=i.toNat+1:=by omega
    rw [e,ZW da l i h0 hi,ma];cases hg:g i s (l.getD i.toNat da) with
    |error r=>rfl
    |ok s'=>exact ih (i+1) s' (by omega) (by rw [e1];exact hI' s' hg) (by omega)
   ·rw [hd _ i s hi,aE (by omega)];rfl
 exact key FUEL i0 s h00 hs (by rw [Zz];omega)
theorem rj {T A S R:Type} {step:(T→Option R)→T→Option R} (mk:Int→S→T) (p:Int→A→Bool) (f:S→A→S) (r:Option R) (k:S→Option R) (da:A) (l:List A) (hl:l.length≤1099511627776)
  (h: ∀ again i s,0≤i→i<(l.length:Int)→step again (mk i s)=if p i (l.getD i.toNat da)=true then r else again (mk (i+1) (f s (l.getD i.toNat da))))
  (hd: ∀ again i s,¬ i<(l.length:Int)→step again (mk i s)=k s) (s:S):iter step FUEL (mk 0 s)=if zk p l 0=true then r else k (l.foldl f s):=by
 rw [← ri p f r k l 0 s];have:=sT (step:=step) mk (fun i s a=>if p i a=true then .error r else .ok (f s a)) k da l hl (fun _ _=>True) (fun again i s h0 h1 _=>⟨?_,fun _ _=>trivial⟩) hd 0 (yP _) s trivial
 ·simpa using this
 ·rw [h again i s h0 h1];by_cases hp:p i (l.getD i.toNat da)=true
  ·rw [y0 hp,y0 hp]
  ·rw [y9 hp,y9 hp]
theorem zZ {T A R:Type} {step:(T→Option R)→T→Option R} (mk:Int→T) (p:Int→A→Bool) (r k:Option R) (da:A) (l:List A) (hl:l.length≤1099511627776)
  (h: ∀ again i,0≤i→i<(l.length:Int)→step again (mk i)=if p i (l.getD i.toNat da)=true then r else again (mk (i+1)))
  (hd: ∀ again i,¬ i<(l.length:Int)→step again (mk i)=k):iter step FUEL (mk 0)=if zk p l 0=true then r else k:=
 rj (fun i (_:Unit)=>mk i) p (fun _ _=>()) r (fun _=>k) da l hl (fun again i _ h0 h1=>h again i h0 h1) (fun again i _ hi=>hd again i hi) ()
def N3 (a:y8):Int:=(List.length a:Int)
def Fo (a:yw):Int:=(List.length a.2:Int)
def dv (s:List y8) (c:List yw):Prop:=s.length≤1048576∧c.length≤1048576∧Yh N3 s≤1048576∧Yh Fo c≤1048576
theorem Lc (a:y8):0≤N3 a:=uK _
theorem Ld (a:yw):0≤Fo a:=uK _
theorem T5 {s:List y8} (h:Yh N3 s≤1048576) {a:y8} (ha:a∈s):List.length a≤1048576:=by have h4:=(az Lc ha).1;have h5:N3 a=(List.length a:Int):=rfl;omega
theorem y21 {c:List yw} (h:Yh Fo c≤1048576) {a:yw} (ha:a∈c):List.length a.2≤1048576:=by have h4:=(az Ld ha).1;have h5:Fo a=(List.length a.2:Int):=rfl;omega
def sU (_:Int) (a:y8):Bool:=decide ((List.length a:Int)>80)
def mc (n:Int) (_:Int) (w:yw):Bool:= !Yn w.1 0 (n - 1)||decide ((List.length w.2:Int)>80)
def cx (s:List y8) (c:List yw) (z:Int):Bool:= !zk sU s 0&&(!zk (mc s.length) c 0&&((Yn s.length 1 60&&decide ((c.length:Int)≤60))&&Yn z (-1) 1000))
theorem KZ (s:List y8) (c:List yw) (z:Int) (b:Bool) (hs:s.length≤1048576) (hc:c.length≤1048576):W7 (s,c,z,b)=some (cx s c z):=by
 have hw1:Go.IntKind.wrap .i64 ((s.length:Int) - 1)=(s.length:Int) - 1:=zb (by omega) (by omega);unfold W7 m5 nz;refine (zZ (step:=kF _ _) (fun i=>(i,s,c,z,b)) sU (some false) (some (!zk (mc s.length) c 0&&((Yn s.length 1 60&&decide ((c.length:Int)≤60))&&Yn z (-1) 1000))) lS s (by omega) ?_ ?_).trans ?_
 ·intro again i h0 h1;unfold kF sU nz;have hw:Go.IntKind.wrap .i64 (i+1)=i+1:=zb (by omega) (by omega);simp only [yl,ym,h0,h1,yo,hw];rfl
 ·intro again i hi;unfold kF nz;simp only [yl,ym,y9 hi];unfold m6;refine (zZ (step:=kG _ _) (fun i=>(i,s,c,z,b)) (mc s.length) (some false) (some ((Yn s.length 1 60&&decide ((c.length:Int)≤60))&&Yn z (-1) 1000)) aM c (by omega) ?_ ?_).trans ?_
  ·intro again i h0 h1;unfold kG mc nz;have hw:Go.IntKind.wrap .i64 (i+1)=i+1:=zb (by omega) (by omega);simp only [yl,ym,h0,h1,yo,hw,hw1,zK,zzal0];show Option.bind (if (!Yn (c.getD i.toNat aM).1 0 ((s.length:Int) - 1))=true then some true else some (decide ((List.length (c.getD i.toNat aM).2:Int)>80))) _=_;cases Yn (c.getD i.toNat aM).1 0 ((s.length:Int) - 1)<;>rfl
  ·intro again i hi;unfold kG nz;simp only [yl,ym,y9 hi,zK,zzal0];cases Yn s.length 1 60
   ·rfl
   ·by_cases h6:(c.length:Int)≤60
    ·simp [h6]
    ·simp [h6]
  ·cases zk (mc s.length) c 0<;>rfl
 ·unfold cx;cases zk sU s 0<;>rfl
theorem K_ (s:List y8) (c:List yw) (z:Int) (b:Bool) (hs:s.length≤1048576) (hc:c.length≤1048576):JB (s,c,z,b)=some (cx s c z):=by
 have hw1:Go.IntKind.wrap .i64 ((s.length:Int) - 1)=(s.length:Int) - 1:=zb (by omega) (by omega);have hL:dl (fun x5=>some x5.1) (fun x6=>bI (fun x9=>some x9) (fun x10=>some true) (x6.2.1,((List.length x6.2.1:Nat):Int),(0:Int),x6.1,x6.2.1,x6.2.2.1,x6.2.2.2)) (s,((List.length s:Nat):Int),(0:Int),s,c,z,b)=some (!zk sU s 0&& !zk (mc s.length) c 0):=by
  unfold dl;refine (zZ (step:=kD _ _) (fun i=>(s,(s.length:Int),i,s,c,z,b)) sU (some false) (some (!zk (mc s.length) c 0)) lS s (by omega) ?_ ?_).trans ?_
  ·intro again i h0 h1;unfold kD sU nz;have hw:Go.IntKind.wrap .i64 (i+1)=i+1:=zb (by omega) (by omega);simp only [yl,ym,h0,h1,yo,hw];rfl
  ·intro again i hi;unfold kD nz;simp only [yl,ym,y9 hi];unfold bI;refine (zZ (step:=WD _ _) (fun i=>(c,(c.length:Int),i,s,c,z,b)) (mc s.length) (some false) (some true) aM c (by omega) ?_ ?_).trans ?_
   ·intro again i h0 h1;unfold WD mc nz;have hw:Go.IntKind.wrap .i64 (i+1)=i+1:=zb (by omega) (by omega);simp only [yl,ym,h0,h1,yo,hw,hw1,Yq,zzal0];show Option.bind (if (!Yn (c.getD i.toNat aM).1 0 ((s.length:Int) - 1))=true then some true else some (decide ((List.length (c.getD i.toNat aM).2:Int)>80))) _=_;cases Yn (c.getD i.toNat aM).1 0 ((s.length:Int) - 1)<;>rfl
   ·intro again i hi;unfold WD nz;simp only [yl,ym,y9 hi]
   ·cases zk (mc s.length) c 0<;>rfl
  ·cases zk sU s 0<;>rfl
 unfold JB nz;simp only [hL,Yq,zzal0];unfold cx;cases Yn s.length 1 60
 ·cases zk sU s 0<;>cases zk (mc s.length) c 0<;>rfl
 ·by_cases h6:(c.length:Int)≤60
  ·have h7: ¬ (c.length:Int)>60:=by omega
   simp only [h6,h7,decide_true,decide_false,yJ,yi,yg,zzal0];cases Yn z (-1) 1000
   ·cases zk sU s 0<;>cases zk (mc s.length) c 0<;>rfl
   ·cases zk sU s 0<;>cases zk (mc s.length) c 0<;>rfl
  ·have h7:(c.length:Int)>60:=by omega
   simp only [h6,h7,decide_true,decide_false,yJ,yi,yg,zzal0];cases zk sU s 0<;>cases zk (mc s.length) c 0<;>rfl
theorem qJ {T A R:Type} {step:(T→Option R)→T→Option R} (da:A) (l:List A) (St0:Int→T) (St1:Int→List A→T) (k0:Option R) (k1:List A→Option R) (hl:l.length≤1099511627776)
  (h0: ∀ again i,0≤i→i<((List.length l:Nat):Int)→step again (St0 i)=again (St1 (i+1) [l.getD i.toNat da]))
  (h1: ∀ again i o,0≤i→i<((List.length l:Nat):Int)→List.length o≤List.length l→step again (St1 i o)=again (St1 (i+1) (o++[l.getD i.toNat da])))
  (hd0: ∀ again i,¬ i<((List.length l:Nat):Int)→step again (St0 i)=k0)
  (hd1: ∀ again i o,¬ i<((List.length l:Nat):Int)→step again (St1 i o)=k1 o):iter step FUEL (St0 0)=if l.length=0 then k0 else k1 l:=by
 have key: ∀ (m:Nat) (i:Int),0≤i→i≤l.length→l.length - i.toNat<m→iter step m (St1 i (l.take i.toNat))=k1 l:=by
  intro m;induction m with
  |zero=>intro i _ _ h;omega
  |succ m ih=>
   intro i i0 i1 hm;rw [iter];by_cases hi:i<((List.length l:Nat):Int)
   ·have e1:(i+1).toNat=i.toNat+1:=by omega
    have e2:l.take i.toNat++[l.getD i.toNat da]=l.take (i+1).toNat:=by rw [e1,Mi (by omega),re da l i i0 hi]
    rw [h1 _ i _ i0 hi (by rw [Za];omega),e2];exact ih (i+1) (by omega) (by omega) (by omega)
   ·rw [hd1 _ i _ hi,rT (by omega)]
 have hF:FUEL=(FUEL - 1)+1:=by have:=Zz;omega
 rw [hF,iter];by_cases h:l.length=0
 ·rw [y0 h,hd0 _ 0 (by omega)]
 ·rw [y9 h,h0 _ 0 (yP _) (by omega)];have e:[l.getD (0:Int).toNat da]=l.take (0+1:Int).toNat:=by
   cases l with
   |nil=>simp at h
   |cons a l=>rfl
  rw [e];exact key _ _ (by omega) (by omega) (by have:=Zz;omega)
theorem WT (a:List Int) (h:a.length≤2097152):zE [a]=some a:=by
 have hF:FUEL=(FUEL - 2)+1+1:=by have:=Zz;omega
 unfold zE bG nz;rw [hF];have s0: ∀ again,Y1 (fun x1=>some x1) again ([a],(1:Int),(0:Int),([]:List yn))=again ([a],1,1,a):=by intro again;unfold Y1 nz;have hw:Go.IntKind.wrap .i64 (0+1)=1:=zb (by omega) (by omega);have hr:YK [a] 0=a:=rfl;simp only [hw,hr,yr,yp,jj];rw [y0 (by omega),y0 (by omega),y0 (by omega)];rfl
 have s1: ∀ again,Y1 (fun x1=>some x1) again ([a],(1:Int),(1:Int),a)=some a:=by intro again;unfold Y1 nz;rfl
 rw [show ((List.length [a]:Nat):Int)=1 from rfl,iter,s0,iter,s1]
theorem len1 {A:Type} (a:A) (k:Nat) (h:k<140737488355328):List.length [a]*k<140737488355328:=by simp only [yp,yr];omega
theorem gR {s:List y8} (h:Yh N3 s≤1048576) {i:Int} (h0:0≤i) (h1:i<((List.length s:Nat):Int)):List.length (YK s i)≤1048576:=T5 h (zz lS s i h0 h1)
theorem kR {c:List yw} (h:Yh Fo c≤1048576) {i:Int} (h0:0≤i) (h1:i<((List.length c:Nat):Int)):List.length (zr c i).2≤1048576:=y21 h (zz aM c i h0 h1)
theorem N4 {R:Type} (k0:List y8×List yw×Int×Bool×Int×Bool×Int×Bool→Option R) (k1:List y8×List yw×Int×Bool×Int×Bool×Int×Bool×List y8→Option R) (s:List y8) (c:List yw) (z:Int) (b:Bool) (h:dv s c):
  bN k0 k1 (Sum.inl (0,s,c,z,b,0,false,z,b))=if s.length=0 then k0 (s,c,z,b,0,false,z,b) else k1 (s,c,z,b,0,false,z,b,s):=by
 obtain ⟨b1,b2,b3,b4⟩:=h;unfold bN;refine qJ (step:=je k0 k1) lS s (fun i=>Sum.inl (i,s,c,z,b,0,false,z,b)) (fun i o=>Sum.inr (i,s,c,z,b,0,false,z,b,o)) _ (fun o=>k1 (s,c,z,b,0,false,z,b,o)) (by omega) ?_ ?_ ?_ ?_
 ·intro again i h0 h1;have hw:Go.IntKind.wrap .i64 (i+1)=i+1:=zb (by omega) (by omega);have hr:=gR b3 h0 h1;simp only [nz,je,yl,ym,h0,h1,yo,hw];rw [y0 (by simp only [yr];omega),y0 (len1 _ _ (by decide))];rfl
 ·intro again i o h0 h1 h2;have hw:Go.IntKind.wrap .i64 (i+1)=i+1:=zb (by omega) (by omega);have hr:=gR b3 h0 h1;simp only [nz,je,yl,ym,h0,h1,yo,hw];rw [y0 (by simp only [yr];omega),y0 (by simp only [yp,yr];omega)];rfl
 ·intro again i hi;simp only [nz,je,yl,ym,y9 hi]
 ·intro again i o hi;simp only [nz,je,yl,ym,y9 hi]
theorem Le {R:Type} (k0:Int×Bool×Int×Bool→Option R) (k1:Int×Bool×Int×Bool×List yw→Option R) (k2:Int×Bool×Int×Bool×List y8→Option R) (k3:Int×Bool×Int×Bool×List y8×List yw→Option R) (s:List y8) (c:List yw) (z:Int) (b:Bool) (h:dv s c):
  Je k0 k1 k2 k3 (Sum.inl (0,s,c,z,b,0,false,z,b))=if c.length=0 then k0 (0,false,z,b) else k1 (0,false,z,b,c):=by
 obtain ⟨b1,b2,b3,b4⟩:=h;unfold Je;refine qJ (step:=Y2 k0 k1 k2 k3) aM c (fun i=>Sum.inl (i,s,c,z,b,0,false,z,b)) (fun i o=>Sum.inr (Sum.inl (i,s,c,z,b,0,false,z,b,o))) _ (fun o=>k1 (0,false,z,b,o)) (by omega) ?_ ?_ ?_ ?_
 ·intro again i h0 h1;have hw:Go.IntKind.wrap .i64 (i+1)=i+1:=zb (by omega) (by omega);have hr:=kR b4 h0 h1;simp only [nz,Y2,yl,ym,h0,h1,yo,hw];rw [y0 (by simp only [yr];omega),y0 (len1 _ _ (by decide))];rfl
 ·intro again i o h0 h1 h2;have hw:Go.IntKind.wrap .i64 (i+1)=i+1:=zb (by omega) (by omega);have hr:=kR b4 h0 h1;simp only [nz,Y2,yl,ym,h0,h1,yo,hw];rw [y0 (by simp only [yr];omega),y0 (by simp only [yp,yr];omega)];rfl
 ·intro again i hi;simp only [nz,Y2,yl,ym,y9 hi]
 ·intro again i o hi;simp only [nz,Y2,yl,ym,y9 hi]
theorem Lf {R:Type} (k0:Int×Bool×Int×Bool→Option R) (k1:Int×Bool×Int×Bool×List yw→Option R) (k2:Int×Bool×Int×Bool×List y8→Option R) (k3:Int×Bool×Int×Bool×List y8×List yw→Option R) (s o:List y8) (c:List yw) (z:Int) (b:Bool) (h:dv s c):
  Je k0 k1 k2 k3 (Sum.inr (Sum.inr (Sum.inl (0,s,c,z,b,0,false,z,b,o))))=if c.length=0 then k2 (0,false,z,b,o) else k3 (0,false,z,b,o,c):=by
 obtain ⟨b1,b2,b3,b4⟩:=h;unfold Je;refine qJ (step:=Y2 k0 k1 k2 k3) aM c (fun i=>Sum.inr (Sum.inr (Sum.inl (i,s,c,z,b,0,false,z,b,o)))) (fun i o'=>Sum.inr (Sum.inr (Sum.inr (i,s,c,z,b,0,false,z,b,o,o')))) _ (fun o'=>k3 (0,false,z,b,o,o')) (by omega) ?_ ?_ ?_ ?_
 ·intro again i h0 h1;have hw:Go.IntKind.wrap .i64 (i+1)=i+1:=zb (by omega) (by omega);have hr:=kR b4 h0 h1;simp only [nz,Y2,yl,ym,h0,h1,yo,hw];rw [y0 (by simp only [yr];omega),y0 (len1 _ _ (by decide))];rfl
 ·intro again i o' h0 h1 h2;have hw:Go.IntKind.wrap .i64 (i+1)=i+1:=zb (by omega) (by omega);have hr:=kR b4 h0 h1;simp only [nz,Y2,yl,ym,h0,h1,yo,hw];rw [y0 (by simp only [yr];omega),y0 (by simp only [yp,yr];omega)];rfl
 ·intro again i hi;simp only [nz,Y2,yl,ym,y9 hi]
 ·intro again i o' hi;simp only [nz,Y2,yl,ym,y9 hi]
theorem dw (s:List y8) (c:List yw) (z:Int) (b:Bool) (h:dv s c):WQ (s,c,z,b)=some (s,c,z,b):=by
 unfold WQ nz;rw [N4 _ _ s c z b h];cases s with
 |nil=>
  rw [y0 (show List.length ([]:List y8)=0 from rfl)];simp only [Le _ _ _ _ _ c z b h];cases c with
  |nil=>rfl
  |cons w c=>rw [y9 (show ¬ List.length (w::c)=0 from by simp)]
 |cons a s=>
  rw [y9 (show ¬ List.length (a::s)=0 from by simp)];simp only [Lf _ _ _ _ _ _ c z b h];cases c with
  |nil=>rfl
  |cons w c=>rw [y9 (show ¬ List.length (w::c)=0 from by simp)]
theorem N5 {R:Type} (k0:List y8×List yw×Int×Bool×Int×Bool×Int×Bool→Option R) (k1:List y8×List yw×Int×Bool×Int×Bool×Int×Bool×List y8→Option R) (s:List y8) (c:List yw) (z:Int) (b:Bool) (h:dv s c):
  Qc k0 k1 (Sum.inl (s,((List.length s:Nat):Int),0,s,c,z,b,0,false,z,b))=if s.length=0 then k0 (s,c,z,b,0,false,z,b) else k1 (s,c,z,b,0,false,z,b,s):=by
 obtain ⟨b1,b2,b3,b4⟩:=h;unfold Qc;refine qJ (step:=Zt k0 k1) lS s (fun i=>Sum.inl (s,((List.length s:Nat):Int),i,s,c,z,b,0,false,z,b)) (fun i o=>Sum.inr (s,((List.length s:Nat):Int),i,s,c,z,b,0,false,z,b,o)) _ (fun o=>k1 (s,c,z,b,0,false,z,b,o)) (by omega) ?_ ?_ ?_ ?_
 ·intro again i h0 h1;have hw:Go.IntKind.wrap .i64 (i+1)=i+1:=zb (by omega) (by omega);have hr:=gR b3 h0 h1;simp only [nz,Zt,yl,ym,h0,h1,yo,hw,WT (YK s i) (by omega),zzal0];rw [y0 (len1 _ _ (by decide))];rfl
 ·intro again i o h0 h1 h2;have hw:Go.IntKind.wrap .i64 (i+1)=i+1:=zb (by omega) (by omega);have hr:=gR b3 h0 h1;simp only [nz,Zt,yl,ym,h0,h1,yo,hw,WT (YK s i) (by omega),zzal0];rw [y0 (by simp only [yp,yr];omega)];rfl
 ·intro again i hi;simp only [nz,Zt,yl,ym,y9 hi]
 ·intro again i o hi;simp only [nz,Zt,yl,ym,y9 hi]
theorem Lg {R:Type} (k0:Int×Bool×Int×Bool→Option R) (k1:Int×Bool×Int×Bool×List yw→Option R) (k2:Int×Bool×Int×Bool×List y8→Option R) (k3:Int×Bool×Int×Bool×List y8×List yw→Option R) (c:List yw) (z:Int) (b:Bool) (b2:c.length≤1048576) (b4:Yh Fo c≤1048576):
  jz k0 k1 k2 k3 (Sum.inl (c,((List.length c:Nat):Int),0,0,false,z,b))=if c.length=0 then k0 (0,false,z,b) else k1 (0,false,z,b,c):=by
 unfold jz;refine qJ (step:=zW k0 k1 k2 k3) aM c (fun i=>Sum.inl (c,((List.length c:Nat):Int),i,0,false,z,b)) (fun i o=>Sum.inr (Sum.inl (c,((List.length c:Nat):Int),i,0,false,z,b,o))) _ (fun o=>k1 (0,false,z,b,o)) (by omega) ?_ ?_ ?_ ?_
 ·intro again i h0 h1;have hw:Go.IntKind.wrap .i64 (i+1)=i+1:=zb (by omega) (by omega);have hr:=kR b4 h0 h1;simp only [nz,zW,yl,ym,h0,h1,yo,hw,WT (zr c i).2 (by omega),zzal0];rw [y0 (len1 _ _ (by decide))];rfl
 ·intro again i o h0 h1 h2;have hw:Go.IntKind.wrap .i64 (i+1)=i+1:=zb (by omega) (by omega);have hr:=kR b4 h0 h1;simp only [nz,zW,yl,ym,h0,h1,yo,hw,WT (zr c i).2 (by omega),zzal0];rw [y0 (by simp only [yp,yr];omega)];rfl
 ·intro again i hi;simp only [nz,zW,yl,ym,y9 hi]
 ·intro again i o hi;simp only [nz,zW,yl,ym,y9 hi]
theorem Lh {R:Type} (k0:Int×Bool×Int×Bool→Option R) (k1:Int×Bool×Int×Bool×List yw→Option R) (k2:Int×Bool×Int×Bool×List y8→Option R) (k3:Int×Bool×Int×Bool×List y8×List yw→Option R) (o:List y8) (c:List yw) (z:Int) (b:Bool) (b2:c.length≤1048576) (b4:Yh Fo c≤1048576):
  jz k0 k1 k2 k3 (Sum.inr (Sum.inr (Sum.inl (c,((List.length c:Nat):Int),0,0,false,z,b,o))))=if c.length=0 then k2 (0,false,z,b,o) else k3 (0,false,z,b,o,c):=by
 unfold jz;refine qJ (step:=zW k0 k1 k2 k3) aM c (fun i=>Sum.inr (Sum.inr (Sum.inl (c,((List.length c:Nat):Int),i,0,false,z,b,o)))) (fun i o'=>Sum.inr (Sum.inr (Sum.inr (c,((List.length c:Nat):Int),i,0,false,z,b,o,o')))) _ (fun o'=>k3 (0,false,z,b,o,o')) (by omega) ?_ ?_ ?_ ?_
 ·intro again i h0 h1;have hw:Go.IntKind.wrap .i64 (i+1)=i+1:=zb (by omega) (by omega);have hr:=kR b4 h0 h1;simp only [nz,zW,yl,ym,h0,h1,yo,hw,WT (zr c i).2 (by omega),zzal0];rw [y0 (len1 _ _ (by decide))];rfl
 ·intro again i o' h0 h1 h2;have hw:Go.IntKind.wrap .i64 (i+1)=i+1:=zb (by omega) (by omega);have hr:=kR b4 h0 h1;simp only [nz,zW,yl,ym,h0,h1,yo,hw,WT (zr c i).2 (by omega),zzal0];rw [y0 (by simp only [yp,yr];omega)];rfl
 ·intro again i hi;simp only [nz,zW,yl,ym,y9 hi]
 ·intro again i o' hi;simp only [nz,zW,yl,ym,y9 hi]
theorem l5 (s:List y8) (c:List yw) (z:Int) (b:Bool) (h:dv s c):kE (s,c,z,b)=some (s,c,z,b):=by
 unfold kE nz;rw [N5 _ _ s c z b h];cases s with
 |nil=>
  rw [y0 (show List.length ([]:List y8)=0 from rfl)];simp only [Lg _ _ _ _ c z b h.2.1 h.2.2.2];cases c with
  |nil=>rfl
  |cons w c=>rw [y9 (show ¬ List.length (w::c)=0 from by simp)]
 |cons a s=>
  rw [y9 (show ¬ List.length (a::s)=0 from by simp)];simp only [Lh _ _ _ _ _ c z b h.2.1 h.2.2.2];cases c with
  |nil=>rfl
  |cons w c=>rw [y9 (show ¬ List.length (w::c)=0 from by simp)]
def Kt (s:List y8) (c:List yw) (z:Int):Prop:=(∀ a∈s,List.length a≤80)∧(∀ w∈c,0≤w.1∧w.1≤(s.length:Int) - 1∧List.length w.2≤80)∧1≤s.length∧s.length≤60∧c.length≤60∧ -1≤z∧z≤1000
theorem Bg {A:Type} (p:Int→A→Bool) (hp: ∀ i j a,p i a=p j a): ∀ (l:List A) (i:Int),zk p l i=false↔ ∀ a∈l,p 0 a=false
 |[],i=>by simp [zk]
 |b::l,i=>by rw [zk,WW,Bg p hp l (i+1),hp i 0 b];simp
theorem aA (s:List y8) (c:List yw) (z:Int):cx s c z=true↔Kt s c z:=by
 unfold cx Kt;simp only [zzal10,zzal45,zi,ym];rw [Bg sU (fun _ _ _=>rfl),Bg (mc s.length) (fun _ _ _=>rfl)];constructor
 ·rintro ⟨h1,h2,⟨h3,h4⟩,h5⟩;refine ⟨fun a ha=> ?_,fun w hw=> ?_,by omega,by omega,by omega,by omega,by omega⟩
  ·have:=Ev (h1 a ha);omega
  ·have h:=h2 w hw;unfold mc at h;rw [WW,eR,zi] at h;have:=Ev h.2;exact ⟨h.1.1,h.1.2,by omega⟩
 ·rintro ⟨h1,h2,h3,h4,h5,h6,h7⟩;refine ⟨fun a ha=>yX (by have:=h1 a ha;omega),fun w hw=> ?_,⟨⟨by omega,by omega⟩,by omega⟩,by omega,by omega⟩;have h:=h2 w hw;unfold mc;rw [WW,eR,zi];exact ⟨⟨h.1,h.2.1⟩,yX (by omega)⟩
theorem rk {A:Type} (w:A→Int) (m:Int): ∀ (l:List A),(∀ a∈l,w a≤m)→Yh w l≤m*l.length
 |[],_=>by simp [Yh]
 |a::l,h=>by
  have h1:=rk w m l fun b hb=>h b (by simp [hb]);have h2:=h a (by simp);rw [Yp,yp];have e:m*((l.length+1:Nat):Int)=m*l.length+m:=by rw [Int.natCast_add,Int.mul_add];simp
  omega
theorem gT {s:List y8} {c:List yw} {z:Int} (h:Kt s c z):dv s c:=by
 obtain ⟨h1,h2,h3,h4,h5,h6,h7⟩:=h;have e1:=rk N3 80 s fun a ha=>by have:=h1 a ha;show (List.length a:Int)≤80;omega
 have e2:=rk Fo 80 c fun w hw=>by have:=(h2 w hw).2.2;show (List.length w.2:Int)≤80;omega
 exact ⟨by omega,by omega,by omega,by omega⟩
def Fp (s:List y8) (t:List yw×Int×Bool) (n:Int) (p:List Int):List yw×Int×Bool:=
 if t.2.2=true then t else if Yn n 0 ((s.length:Int) - 1)=false then t else if (p.length:Int)>80 then t else if (t.1.length:Int)≥60 then t
 else if t.2.1=0 then (t.1,-1,true) else (t.1++[(n,p)],if t.2.1>0 then t.2.1 - 1 else t.2.1,t.2.2)
theorem uo (s:List y8) (c:List yw) (z:Int) (b:Bool) (n:Int) (p:List Int) (h:Kt s c z):Zg (s,c,z,b,n,p)=some (s,Fp s (c,z,b) n p):=by
 obtain ⟨h1,h2,h3,h4,h5,h6,h7⟩:=h;have hw:Go.IntKind.wrap .i64 ((s.length:Int) - 1)=(s.length:Int) - 1:=zb (by omega) (by omega);have hw2:Go.IntKind.wrap .i64 (z - 1)=z - 1:=zb (by omega) (by omega);unfold Zg Fp nz;simp only [hw,zK,zzal0];cases b with
 |true=>rfl
 |false=>
  rw [y9 (by simp)];cases hin:Yn n 0 ((s.length:Int) - 1) with
  |false=>rfl
  |true=>
   rw [y9 (by simp)];by_cases a1:(p.length:Int)>80
   ·rw [y0 a1,yG a1];rfl
   ·rw [y9 a1,yX a1];by_cases a2:(c.length:Int)≥60
    ·rw [y0 a2,yG a2];rfl
    ·rw [y9 a2,yX a2];unfold Vc nz;simp only [yJ,yi,zzal0,hw2];by_cases a3:z=0
     ·subst a3;rfl
     ·rw [y9 a3,show (z==0)=false from by simpa using a3,yi];have g1:(List.length ([]:List yn)+p.length)*1<140737488355328:=by
       simp only [yr];omega
      have g2:(c.length+List.length ([(n,([]:List yn)++p)]:List yw))*32<140737488355328:=by simp only [yp,yr];omega
      by_cases a4:z>0
      ·rw [y0 a4,yG a4];simp only [yg,zzal0,yJ,yi];rw [y0 g1,y0 g2];rfl
      ·rw [y9 a4,yX a4];simp only [yi,zzal0,yJ];rw [y0 g1,y0 g2];rfl
theorem sW (s:List y8) (c:List yw) (z:Int) (b:Bool) (n:Int) (p:List Int) (h:Kt s c z):vG (s,c,z,b,n,p)=some (s,Fp s (c,z,b) n p):=by
 have hsm:=gT h;have hk:=(aA s c z).2 h;obtain ⟨h1,h2,h3,h4,h5,h6,h7⟩:=h;have hw:Go.IntKind.wrap .i64 ((s.length:Int) - 1)=(s.length:Int) - 1:=zb (by omega) (by omega);have hw2:Go.IntKind.wrap .i64 (z - 1)=z - 1:=zb (by omega) (by omega);unfold vG Fp nz;simp only [hw,Yq,zzal0,l5 s c z b hsm,K_ s c z b (by omega) (by omega),hk,yJ,yi];cases b with
 |true=>rfl
 |false=>
  rw [y9 (by simp)];cases hin:Yn n 0 ((s.length:Int) - 1) with
  |false=>rfl
  |true=>
   rw [y9 (by simp)];by_cases a1:(p.length:Int)>80
   ·rw [y0 a1,yG a1];rfl
   ·rw [y9 a1,yX a1];by_cases a2:(c.length:Int)≥60
    ·rw [y0 a2,show (((List.length c:Nat):Int)==60)=true from by simp;omega];rfl
    ·rw [y9 a2,show (((List.length c:Nat):Int)==60)=false from by simp;omega];unfold lZ nz;simp only [yJ,yi,zzal0,hw2];by_cases a3:z=0
     ·subst a3;rfl
     ·rw [y9 a3,show (z==0)=false from by simpa using a3,yi];have g2:(c.length+List.length ([(n,p)]:List yw))*32<140737488355328:=by
       simp only [yp,yr];omega
      by_cases a4:z>0
      ·rw [y0 a4,yG a4];simp only [yg,zzal0,WT p (by omega)];rw [y0 g2]
      ·rw [y9 a4,yX a4];simp only [yi,yg,zzal0,WT p (by omega)];rw [y0 g2]
theorem sX (s:List y8) (c:List yw) (z:Int) (b:Bool) (n:Int) (p:List Int) (h:Kt s c z):Kt s (Fp s (c,z,b) n p).1 (Fp s (c,z,b) n p).2.1:=by
 unfold Fp;cases b with
 |true=>exact h
 |false=>
  rw [y9 (by simp)];cases hin:Yn n 0 ((s.length:Int) - 1) with
  |false=>exact h
  |true=>
   rw [y9 (by simp)];by_cases a1:(p.length:Int)>80
   ·rw [y0 a1];exact h
   ·rw [y9 a1];by_cases a2:(c.length:Int)≥60
    ·rw [y0 a2];exact h
    ·rw [y9 a2];obtain ⟨h1,h2,h3,h4,h5,h6,h7⟩:=h;by_cases a3:z=0
     ·rw [y0 a3];exact ⟨h1,h2,h3,h4,h5,by simp,by simp⟩
     ·rw [y9 a3];have hn:=zi.1 hin;refine ⟨h1,?_,h3,h4,?_,?_,?_⟩
      ·intro w hw;simp only [zB,aI] at hw;rcases hw with hw|rfl
       ·exact h2 w hw
       ·exact ⟨hn.1,hn.2,by simp only;omega⟩
      ·simp only [yU,yp,yr];omega
      ·simp only;split<;>omega
      ·simp only;split<;>omega
def fS (p:List Int) (i:Int):Int:=if (p.length:Int)<(i+1)*70 then p.length else (i+1)*70
def KB (p:List Int) (i:Int):List Int:=List.drop (i*70).toNat (List.take (fS p i).toNat p)
def qS (s:List y8) (side:Int) (p:List Int):Nat→Int→List yw×Int×Bool→List yw×Int×Bool
 |0,_,t=>t
 |m+1,i,t=>if i*70<(p.length:Int) then qS s side p m (i+1) (Fp s t (8+side*24+i) (KB p i)) else t
theorem Bh (s:List y8) (side:Int) (p:List Int) (m:Nat) (i:Int) (t:List yw×Int×Bool) (h: ¬ i*70<(p.length:Int)):qS s side p m i t=t:=by
 cases m with
 |zero=>rfl
 |succ m=>rw [qS,y9 h]
theorem xB (s:List y8) (side:Int) (p:List Int): ∀ (m:Nat) (i:Int) (t:List yw×Int×Bool),Kt s t.1 t.2.1→Kt s (qS s side p m i t).1 (qS s side p m i t).2.1
 |0,_,_,h=>h
 |m+1,i,t,h=>by
  rw [qS];split
  ·exact xB s side p m (i+1) _ (sX s t.1 t.2.1 t.2.2 _ _ h)
  ·exact h
theorem me (side i:Int) (h:Yn side 0 1=true) (h0:0≤i) (h1:i≤23):Ze (side,i)=some (8+side*24+i):=by have hs:=zi.1 h;unfold Ze nz;simp only [zK,h,zi.2 ⟨h0,h1⟩,zzal0,yJ,yi];rw [zb (n:=side*24) (by omega) (by omega),zb (n:=8+side*24) (by omega) (by omega),zb (by omega) (by omega)]
theorem Bi (side i:Int) (h:Yn side 0 1=true) (h0:0≤i) (h1:i≤23):jw (side,i)=some (8+side*24+i):=by have hs:=zi.1 h;unfold jw nz;simp only [Yq,h,zi.2 ⟨h0,h1⟩,zzal0,yJ,yi];rw [zb (n:=side*24) (by omega) (by omega),zb (n:=8+side*24) (by omega) (by omega),zb (by omega) (by omega)]
theorem sY (s:List y8) (c:List yw) (z:Int) (b:Bool) (side:Int) (p:List Int) (h:Kt s c z) (hside:Yn side 0 1=true) (hp:p.length≤1680):vJ (s,c,z,b,side,p)=some (s,qS s side p 24 0 (c,z,b)):=by
 unfold vJ eE nz;refine Ym (step:=ka _) (fun t:Int×List Int×Int×Int×Bool×List y8×List yw=>24 - t.2.2.1.toNat) (fun t=>t.1=side∧t.2.1=p∧0≤t.2.2.1∧t.2.2.1≤24∧t.2.2.2.2.2.1=s∧Kt s t.2.2.2.2.2.2 t.2.2.2.1) (fun t=>some (s,qS s side p (24 - t.2.2.1.toNat) t.2.2.1 (t.2.2.2.2.2.2,t.2.2.2.1,t.2.2.2.2.1))) ?_ (side,p,0,z,b,s,c) ⟨rfl,rfl,yP _,by simp,rfl,h⟩ (by simp);rintro again ⟨rm,p',i,z',b',s',c'⟩ ⟨a1,a2,i0,i1,a3,hd⟩ hag;simp only at a1 a2 i0 i1 a3 hd ⊢;subst a1 a2 a3;have w1:Go.IntKind.wrap .i64 (i*70)=i*70:=zb (by omega) (by omega);have w2:Go.IntKind.wrap .i64 (i+1)=i+1:=zb (by omega) (by omega);have w3:Go.IntKind.wrap .i64 ((i+1)*70)=(i+1)*70:=zb (by omega) (by omega);unfold ka nz;simp only [w1,w2,w3];by_cases hi:i*70<(p'.length:Int)
 ·have e1:24 - i.toNat=(24 - (i+1).toNat)+1:=by omega
  rw [yG hi,yg,e1,qS,y0 hi,me rm i hside i0 (by omega)];simp only [zzal0];have hcall: ∀ q,q=KB p' i→Option.bind (Zg (s',c',z',b',8+rm*24+i,q)) (fun r=>again (rm,p',i+1,r.2.2.1,r.2.2.2,r.1,r.2.1))=some (s',qS s' rm p' (24 - (i+1).toNat) (i+1) (Fp s' (c',z',b') (8+rm*24+i) (KB p' i))):=by rintro q rfl;rw [uo s' c' z' b' _ _ hd];exact hag _ ⟨rfl,rfl,by simp only;omega,by simp only;omega,rfl,sX s' c' z' b' _ _ hd⟩ (by simp only;omega)
  by_cases he:(i+1)*70>(p'.length:Int)
  ·rw [yG he,yg,y0 (by omega),y0 (by omega),y0 (by omega)];exact hcall _ (by rw [KB,fS,y0 he])
  ·rw [yX he,yi,y0 (by omega),y0 (by omega),y0 (by omega)];exact hcall _ (by rw [KB,fS,y9 he])
 ·rw [yX hi,yi,Bh _ _ _ _ _ _ hi]
def dx (s:List y8) (c:List yw) (z:Int) (b:Bool) (side:Int) (p:List Int):List y8×List yw×Int×Bool:=if (cx s c z&&(Yn side 0 1&&decide ((p.length:Int)≤1680)))=true then (s,qS s side p 24 0 (c,z,b)) else (s,c,z,b)
theorem dy (s:List y8) (c:List yw) (z:Int) (b:Bool) (side:Int) (p:List Int) (h:dv s c):JC (s,c,z,b,side,p)=some (dx s c z b side p):=by
 unfold JC dx nz;simp only [dw s c z b h,KZ s c z b h.1 h.2.1,zK,zzal0];cases hd:cx s c z with
 |false=>rfl
 |true=>
  cases hin:Yn side 0 1 with
  |false=>rfl
  |true=>
   by_cases hp:(p.length:Int)≤1680
   ·rw [yG hp];simp only [yg,zzal0,uM,yo,sY s c z b side p ((aA s c z).1 hd) hin (by omega)]
   ·rw [yX hp];rfl
theorem Cy {R:Type} (k:Int×Bool×Int×Bool×List y8×List yw→Option R) (s:List y8) (c:List yw) (z:Int) (b:Bool) (side:Int) (p:List Int) (h:Kt s c z) (hside:Yn side 0 1=true) (hp:p.length≤1680):
  KD k (side,p,0,0,false,z,b,s,c)=k (0,false,(qS s side p 24 0 (c,z,b)).2.1,(qS s side p 24 0 (c,z,b)).2.2,s,(qS s side p 24 0 (c,z,b)).1):=by
 unfold KD;refine Ym (step:=JY k) (fun t:Int×List Int×Int×Int×Bool×Int×Bool×List y8×List yw=>24 - t.2.2.1.toNat) (fun t=>t.1=side∧t.2.1=p∧0≤t.2.2.1∧t.2.2.1≤24∧t.2.2.2.1=0∧t.2.2.2.2.1=false∧t.2.2.2.2.2.2.2.1=s∧Kt s t.2.2.2.2.2.2.2.2 t.2.2.2.2.2.1) (fun t=>k (0,false,(qS s side p (24 - t.2.2.1.toNat) t.2.2.1 (t.2.2.2.2.2.2.2.2,t.2.2.2.2.2.1,t.2.2.2.2.2.2.1)).2.1,(qS s side p (24 - t.2.2.1.toNat) t.2.2.1 (t.2.2.2.2.2.2.2.2,t.2.2.2.2.2.1,t.2.2.2.2.2.2.1)).2.2,s,(qS s side p (24 - t.2.2.1.toNat) t.2.2.1 (t.2.2.2.2.2.2.2.2,t.2.2.2.2.2.1,t.2.2.2.2.2.2.1)).1)) ?_ (side,p,0,0,false,z,b,s,c) ⟨rfl,rfl,yP _,by simp,rfl,rfl,rfl,h⟩ (by simp);rintro again ⟨rm,p',i,y,f,z',b',s',c'⟩ ⟨a1,a2,i0,i1,a4,a5,a3,hd⟩ hag;simp only at a1 a2 i0 i1 a3 a4 a5 hd ⊢;subst a1 a2 a3 a4 a5;have w1:Go.IntKind.wrap .i64 (i*70)=i*70:=zb (by omega) (by omega);have w2:Go.IntKind.wrap .i64 (i+1)=i+1:=zb (by omega) (by omega);have w3:Go.IntKind.wrap .i64 ((i+1)*70)=(i+1)*70:=zb (by omega) (by omega);unfold JY nz;simp only [w1,w2,w3];by_cases hi:i*70<(p'.length:Int)
 ·have e1:24 - i.toNat=(24 - (i+1).toNat)+1:=by omega
  have hE:(if (p'.length:Int)<(i+1)*70 then (p'.length:Int) else (i+1)*70)=fS p' i:=rfl;have hE1:i*70≤fS p' i:=by unfold fS;split<;>omega
  have hE2:fS p' i≤(p'.length:Int):=by unfold fS;split<;>omega
  rw [yG hi,yg,e1,qS,y0 hi,Bi rm i hside i0 (by omega)];simp only [zzal0,hE];rw [y0 (by omega),y0 hE1,y0 hE2,show List.drop (i*70).toNat (List.take (fS p' i).toNat p')=KB p' i from rfl,sW s' c' z' b' _ _ hd];exact hag _ ⟨rfl,rfl,by simp only;omega,by simp only;omega,rfl,rfl,rfl,sX s' c' z' b' _ _ hd⟩ (by simp only;omega)
 ·rw [yX hi,yi,Bh _ _ _ _ _ _ hi]
theorem dz (s:List y8) (c:List yw) (z:Int) (b:Bool) (side:Int) (p:List Int) (h:dv s c):ZQ (s,c,z,b,side,p)=some (dx s c z b side p):=by
 unfold ZQ dx nz;simp only [l5 s c z b h,K_ s c z b h.1 h.2.1,Yq,zzal0];cases hd:cx s c z with
 |false=>rfl
 |true=>
  by_cases hp:(p.length:Int)≤1680
  ·rw [yX (show ¬ (p.length:Int)>1680 by omega),yG hp];cases hin:Yn side 0 1 with
   |false=>rfl
   |true=>simp only [yi,zzal0,yJ,uM,yo,Cy _ s c z b side p ((aA s c z).1 hd) hin (by omega)]
  ·rw [yG (show (p.length:Int)>1680 by omega),yX hp];simp
theorem N6 {T A S R:Type} {step:(T→Option R)→T→Option R} (da:A) (g:S→A→S) (l:List A) (St0 St1:Int→S→T) (k:S→Option R) (I:S→Prop) (hl:l.length≤1099511627776)
  (h0: ∀ again i s,0≤i→i<((List.length l:Nat):Int)→I s→step again (St0 i s)=again (St1 (i+1) (g s (l.getD i.toNat da))))
  (h1: ∀ again i s,0≤i→i<((List.length l:Nat):Int)→I s→step again (St1 i s)=again (St1 (i+1) (g s (l.getD i.toNat da))))
  (hI: ∀ s a,I s→a∈l→I (g s a))
  (hd0: ∀ again i s,¬ i<((List.length l:Nat):Int)→step again (St0 i s)=k s) (hd1: ∀ again i s,¬ i<((List.length l:Nat):Int)→step again (St1 i s)=k s) (s:S) (hs:I s):iter step FUEL (St0 0 s)=k (l.foldl g s):=by
 have key: ∀ (n:Nat) (i:Int) (s:S),0≤i→i≤l.length→I s→l.length - i.toNat<n→iter step n (St1 i s)=k ((l.drop i.toNat).foldl g s):=by
  intro n;induction n with
  |zero=>intro i s _ _ _ hn;omega
  |succ n ih=>
   intro i s i0 i1 hs hn;rw [iter];by_cases hi:i<((List.length l:Nat):Int)
   ·rw [h1 _ i s i0 hi hs,ih (i+1) _ (by omega) (by omega) (hI s _ hs (zz da l i i0 hi)) (by omega),ZW da l i i0 hi,Zl]
   ·rw [hd1 _ i s hi,aE (by omega)];rfl
 have hF:FUEL=(FUEL - 1)+1:=by have:=Zz;omega
 rw [hF,iter];by_cases h:(0:Int)<((List.length l:Nat):Int)
 ·rw [h0 _ 0 s (yP _) h hs,key _ _ _ (by omega) (by omega) (hI s _ hs (zz da l 0 (yP _) h)) (by
   have:=Zz;omega)]
  congr 1;have:=ZW da l 0 (yP _) h;rw [show l.drop (0:Int).toNat=l from rfl] at this
  conv=>rhs;rw [this,Zl]
 ·rw [hd0 _ 0 s h];have:l=[]:=f_.1 (by omega);subst this;rfl
def mf (s:List y8) (w:yw):List y8:=s.set w.1.toNat w.2
def N7 (s:List y8) (c:List yw) (z:Int) (b:Bool):List y8×List yw×Int×Bool:=
 if b=true then (s,c,z,b) else if z=0 then (s,c,-1,true) else (c.foldl mf s,[],if z>0 then z - 1 else z,b)
theorem rn (P:y8→Prop): ∀ (c:List yw) (s:List y8),(∀ a∈s,P a)→(∀ w∈c,P w.2)→(∀ a∈c.foldl mf s,P a)∧(c.foldl mf s).length=s.length
 |[],s,hs,_=>⟨hs,rfl⟩
 |w::c,s,hs,hc=>by have ih:=rn P c (mf s w) (fun a ha=>(Vo ha).elim (hs a) fun e=>e ▸ hc w (by simp)) (fun v hv=>hc v (by simp [hv]));rw [Zl];exact ⟨ih.1,ih.2.trans (by simp [mf])⟩
theorem Fq (s:List y8) (c:List yw) (z:Int) (b:Bool) (h:Kt s c z):Kt (N7 s c z b).1 (N7 s c z b).2.1 (N7 s c z b).2.2.1:=by
 unfold N7;split
 ·exact h
 ·obtain ⟨h1,h2,h3,h4,h5,h6,h7⟩:=h;split
  ·exact ⟨h1,h2,h3,h4,h5,by simp,by simp⟩
  ·have hp:=rn (fun a=>List.length a≤80) c s h1 (fun w hw=>(h2 w hw).2.2);refine ⟨hp.1,by simp,?_,?_,by simp,?_,?_⟩
   ·simp only [hp.2];exact h3
   ·simp only [hp.2];exact h4
   ·simp only;split<;>omega
   ·simp only;split<;>omega
theorem xC (s:List y8) (c:List yw) (z:Int) (b:Bool) (h:Kt s c z):(N7 s c z b).1.length=s.length:=by
 unfold N7;split
 ·rfl
 ·split
  ·rfl
  ·exact (rn (fun _=>True) c s (fun _ _=>trivial) (fun _ _=>trivial)).2
section
variable (q:List yf) (t:List y6) (l:List yb) (cs:List ya) (vs:List yj) (nx gen bs sq:Int)
abbrev ST:Type:=List y8×List yw×Int×Bool×List yf×List y6×List yb×List ya×List yj×Int×Int×Int×Int
def qU (d:List y8×List yw×Int×Bool):ST:=(d.1,d.2.1,d.2.2.1,d.2.2.2,q,t,l,cs,vs,nx,gen,bs,sq)
theorem cy (s:List y8) (c:List yw) (z:Int) (b:Bool) (h:Kt s c z):Yb (s,c,z,b,q,t,l,cs,vs,nx,gen,bs,sq)=some (qU q t l cs vs nx gen bs sq (N7 s c z b)):=by
 have hsm:=gT h;obtain ⟨h1,h2,h3,h4,h5,h6,h7⟩:=h;have hw2:Go.IntKind.wrap .i64 (z - 1)=z - 1:=zb (by omega) (by omega);have hloop: ∀ z':Int,Wa (fun x2=>some (x2.2.2.2.2.2.2.2.2.2.2.2.1,([]:List yw),x2.1,x2.2.1,x2.2.2.1,x2.2.2.2.1,x2.2.2.2.2.1,x2.2.2.2.2.2.1,x2.2.2.2.2.2.2.1,x2.2.2.2.2.2.2.2.1,x2.2.2.2.2.2.2.2.2.1,x2.2.2.2.2.2.2.2.2.2.1,x2.2.2.2.2.2.2.2.2.2.2.1)) ((0:Int),z',false,q,t,l,cs,vs,nx,gen,bs,sq,s,c)=some (c.foldl mf s,([]:List yw),z',false,q,t,l,cs,vs,nx,gen,bs,sq):=by
  intro z';unfold Wa;refine N6 (step:=Ye _) aM mf c (fun i s'=>(i,z',false,q,t,l,cs,vs,nx,gen,bs,sq,s',c)) (fun i s'=>(i,z',false,q,t,l,cs,vs,nx,gen,bs,sq,s',c)) (fun s'=>some (s',([]:List yw),z',false,q,t,l,cs,vs,nx,gen,bs,sq)) (fun s'=>s'.length=s.length) (by omega) ?_ ?_ ?_ ?_ ?_ s rfl
  ·intro again i s' i0 i1 hl;have hw:Go.IntKind.wrap .i64 (i+1)=i+1:=zb (by omega) (by omega);have hn:=h2 _ (zz aM c i i0 i1);have hn1:(zr c i).1<((List.length s':Nat):Int):=by
    have:(zr c i).1≤(s.length:Int) - 1:=hn.2.1;omega
   have hn0:0≤(zr c i).1:=hn.1;unfold Ye nz;simp only [yl,ym,i0,i1,yo,hw,hn0,hn1];rfl
  ·intro again i s' i0 i1 hl;have hw:Go.IntKind.wrap .i64 (i+1)=i+1:=zb (by omega) (by omega);have hn:=h2 _ (zz aM c i i0 i1);have hn1:(zr c i).1<((List.length s':Nat):Int):=by
    have:(zr c i).1≤(s.length:Int) - 1:=hn.2.1;omega
   have hn0:0≤(zr c i).1:=hn.1;unfold Ye nz;simp only [yl,ym,i0,i1,yo,hw,hn0,hn1];rfl
  ·intro s' a hs' _;simp only [mf,Yt];exact hs'
  ·intro again i s' hi;unfold Ye nz;simp only [yl,ym,y9 hi]
  ·intro again i s' hi;unfold Ye nz;simp only [yl,ym,y9 hi]
 unfold Yb N7 qU nz;cases b with
 |true=>rfl
 |false=>
  rw [y9 (show ¬ (false=true) by simp)];simp only [yi];unfold JI nz;by_cases a3:z=0
  ·subst a3;rfl
  ·rw [y9 a3];simp only [show (z==0)=false from by simpa using a3,yi];by_cases a4:z>0
   ·rw [y0 a4];simp only [yG a4,yg,zzal0,yJ,yi,hw2];exact hloop (z - 1)
   ·rw [y9 a4];simp only [yX a4,yi,zzal0,yJ];exact hloop z
end
def Bj (n:y6):Prop:=List.length n≤1048576∧ ∀ b∈(show List yc from n),List.length b≤1048576
theorem dA (n:List yc) (h:Bj n):zX n=some n:=by
 have h1:n.length≤1048576:=h.1;have e:zX n=if n.length=0 then some ([]:List yc) else some n:=by
  unfold zX iw nz;refine qJ (step:=j8 _ _) zN n (fun i=>Sum.inl (i,n)) (fun i o=>Sum.inr (i,n,o)) _ (fun o=>some o) (by omega) ?_ ?_ ?_ ?_
  ·intro again i i0 i1;have hw:Go.IntKind.wrap .i64 (i+1)=i+1:=zb (by omega) (by omega);have hr:List.length (yK n i)≤1048576:=h.2 _ (zz zN n i i0 i1);simp only [nz,j8,yl,ym,i0,i1,yo,hw];rw [y0 (by simp only [yr];omega),y0 (len1 _ _ (by decide))];rfl
  ·intro again i o i0 i1 i2;have hw:Go.IntKind.wrap .i64 (i+1)=i+1:=zb (by omega) (by omega);have hr:List.length (yK n i)≤1048576:=h.2 _ (zz zN n i i0 i1);simp only [nz,j8,yl,ym,i0,i1,yo,hw];rw [y0 (by simp only [yr];omega),y0 (by simp only [yp,yr];omega)];rfl
  ·intro again i hi;simp only [nz,j8,yl,ym,y9 hi]
  ·intro again i o hi;simp only [nz,j8,yl,ym,y9 hi]
 rw [e];split
 ·rename_i h0;rw [f_.1 h0]
 ·rfl
theorem dB (q:List yf) (t:List y6) (hq:q.length≤1048576) (ht:t.length≤1048576) (hn: ∀ n∈t,Bj n):JR (q,t)=some (q,t):=by
 have e:JR (q,t)=if t.length=0 then some (q,([]:List y6)) else some (q,t):=by
  unfold JR ix nz;simp only [yr,jj];rw [y0 (by omega)];refine qJ (step:=j9 _ _) y_ t (fun i=>Sum.inl (i,q,t,q)) (fun i o=>Sum.inr (i,q,t,q,o)) _ (fun o=>some (q,o)) (by omega) ?_ ?_ ?_ ?_
  ·intro again i i0 i1;have hw:Go.IntKind.wrap .i64 (i+1)=i+1:=zb (by omega) (by omega);have hr:Bj (yt t i):=hn _ (zz y_ t i i0 i1);simp only [nz,j9,yl,ym,i0,i1,yo,hw,dA _ hr,zzal0];rw [y0 (len1 _ _ (by decide))];rfl
  ·intro again i o i0 i1 i2;have hw:Go.IntKind.wrap .i64 (i+1)=i+1:=zb (by omega) (by omega);have hr:Bj (yt t i):=hn _ (zz y_ t i i0 i1);simp only [nz,j9,yl,ym,i0,i1,yo,hw,dA _ hr,zzal0];rw [y0 (by simp only [yp,yr];omega)];rfl
  ·intro again i hi;simp only [nz,j9,yl,ym,y9 hi]
  ·intro again i o hi;simp only [nz,j9,yl,ym,y9 hi]
 rw [e];split
 ·rename_i h0;rw [f_.1 h0]
 ·rfl
theorem bR (q:List yf) (t:List y6) (l:List yb) (cs:List ya) (vs:List yj) (z:Int) (h:small q t l cs vs):yF (q,t,l,cs,vs,z)=some (q,t,l,cs,vs,z):=by obtain ⟨h1,h2,h3,h4,h5,h6⟩:=h;unfold yF ju nz;simp only [dB q t h1 h2 (fun n hn=>vY h3 hn),zzal0,yr,jj];rw [y0 (by omega),y0 (by omega)];simp only [zzal0];rw [y0 (by omega)]
def og (blk:Int) (s:List y7) (a:y7):List y7:=if a.1==blk then s++[a] else s
def keysOf (ks:List y7) (blk:Int):List y7:=ks.foldl (og blk) []
theorem Bk (blk:Int) (s:List y7) (a:y7):(og blk s a).length≤s.length+1:=by unfold og;split<;>simp
theorem DS (blk:Int): ∀ (l s:List y7),(l.foldl (og blk) s).length≤s.length+l.length
 |[],s=>by simp
 |c::l,s=>by have h:=DS blk l (og blk s c);have h2:=Bk blk s c;simp only [Zl,yp];omega
theorem DU: ∀ (t:List y6) (s:List y7),((t.foldl vK s).length:Int)≤s.length+Yh KY t
 |[],s=>by simp [Yh]
 |n::t,s=>by have h:=DU t (vK s n);have h1:=Qr n;have h2:=m9 n;have h3:(vK s n).length=s.length+(zm n).length:=yU;simp only [Zl,Yp];omega
theorem DV (t:List y6):((zV t).length:Int)≤Yh KY t:=by have:=DU t [];simpa [zV] using this
structure Jl (t:List y6):Prop where
 len:t.length≤1048576
 nodes: ∀ n∈t,List.length n≤1073741824
 sum:Yh KY t≤1048576
theorem Jl.keys {t:List y6} (h:Jl t):(zV t).length≤1048576:=by have h1:=DV t;have h2:=h.sum;omega
theorem Bl (q:List Int) (t:List y6) (blk:Int) (ht:Jl t):QD (q,t,blk)=some (keysOf (zV t) blk):=by
 unfold QD iD nz;have hk:=ht.keys;have e:zA (q,t)=some (zV t):=Zw q t (by have:=ht.len;omega) ht.nodes ht.sum;simp only [e,zzal0];generalize zV t=ks at hk;refine Z7 (step:=Wq _) (fun (i:Int) (s:List y7)=>(blk,i,s,ks)) (fun s=>some s) zx (og blk) ks (by omega) (fun i s=>s.length≤i) ?_ ?_ [] (by simp)
 ·intro again i s h0 h1 hI;have hw:Go.IntKind.wrap .i64 (i+1)=i+1:=zb (by omega) (by omega);have hs:=Bk blk s (ks.getD i.toNat zx);refine ⟨?_,by omega⟩;have c1:(s.length+1)*40<140737488355328:=by omega
  clear hs;unfold Wq og nz;obtain ⟨⟨x1,x2,x3,x4,x5⟩,hx⟩: ∃ x,yy ks i=x:=⟨_,rfl⟩
  have hx':ks.getD i.toNat zx=(x1,x2,x3,x4,x5):=hx;rw [hx'];simp only [yl,ym,h0,h1,yo,hw,hx,yp,yr,WY,c1];by_cases h3:(x1==blk)=true
  ·rw [y0 h3,y0 h3]
  ·rw [y9 h3,y9 h3]
 ·intro again i s hi;unfold Wq nz;simp only [yl,ym,y9 hi]
def rp (path:List Int) (s:Bool×y7) (a:y7):Bool×y7:=if y20 path a.2.1=true∧(s.1=false∨s.2.2.1<a.2.1) then (true,a) else s
def nearest (ks:List y7) (path:List Int):Bool×y7:=ks.foldl (rp path) (false,(0,0,0,0,0))
def ans (r:Bool×y7):Int×Int×Int×Int×Int×Bool:=(r.2.1,r.2.2.1,r.2.2.2.1,r.2.2.2.2.1,r.2.2.2.2.2,r.1)
theorem rq (q:List Int) (t:List y6) (blk:Int) (path:List Int) (ht:Jl t) (hp:path.length≤1073741824):WP (q,t,blk,path)=some (ans (nearest (keysOf (zV t) blk) path)):=by
 unfold WP iE nz;have hk:(keysOf (zV t) blk).length≤1048576:=by have h1:=DS blk (zV t) [];have h2:=ht.keys;unfold keysOf;simp only [yr] at h1;omega
 simp only [Bl q t blk ht,zzal0];generalize keysOf (zV t) blk=ks at hk;refine (Z7 (step:=Wr _) (fun (i:Int) (s:Bool×y7)=>(path,s.1,i,0,0,0,0,0,s.2.1,s.2.2.1,s.2.2.2.1,s.2.2.2.2.1,s.2.2.2.2.2,ks)) (fun s=>some (ans s)) zx (rp path) ks (by omega) (fun _ _=>True) ?_ ?_ (false,(0,0,0,0,0)) trivial)
 ·rintro again i ⟨f,b1,b2,b3,b4,b5⟩ h0 h1 _;have hw:Go.IntKind.wrap .i64 (i+1)=i+1:=zb (by omega) (by omega);refine ⟨?_,trivial⟩;unfold Wr rp nz;obtain ⟨⟨x1,x2,x3,x4,x5⟩,hx⟩: ∃ x,yy ks i=x:=⟨_,rfl⟩
  have hx':ks.getD i.toNat zx=(x1,x2,x3,x4,x5):=hx;rw [hx'];have e:=Lb path x2 hp;simp only [yl,ym,h0,h1,yo,hw,hx,e,zzal0];cases y20 path x2<;>cases f<;>by_cases hb:b2<x2<;>simp [hb]
 ·rintro again i ⟨f,b1,b2,b3,b4,b5⟩ hi;unfold Wr nz;simp only [yl,ym,y9 hi];rfl
def Rg (t:List y6) (l:List yb) (blk id:Int):Bool×y7:=nearest (keysOf (zV t) blk) (pathOf l id)
theorem Bm (l:List yb) (id:Int) (hl:l.length≤1048576):(pathOf l id).length≤1073741824:=by have:=DR l (l.length+1) (Yr l id);unfold pathOf;omega
theorem Fs (q:List Int) (t:List y6) (l:List yb) (blk id:Int) (ht:Jl t) (hl:l.length≤1048576):eh (q,t,l,blk,id)=some (ans (Rg t l blk id)):=by unfold eh nz;simp only [mb l id hl,rq q t blk _ ht (Bm l id hl),zzal0];rfl
def Rh (t:List y6) (l:List yb) (k:y7) (id:Int):Bool:=(Rg t l k.1 id).1&&((Rg t l k.1 id).2.2.1==k.2.1)
theorem Ft (q:List Int) (t:List y6) (l:List yb) (k1 k2 k3 k4 k5 id:Int) (ht:Jl t) (hl:l.length≤1048576):ei (q,t,l,k1,k2,k3,k4,k5,id)=some (Rh t l (k1,k2,k3,k4,k5) id):=by unfold ei Rh nz;simp only [Fs q t l k1 id ht hl,zzal0,ans];cases (Rg t l k1 id).1<;>rfl
def xD (t:List y6) (l:List yb) (k:y7) (v:yj):Bool:=decide (v.2.2.1>k.1)&&Rh t l k v.2.1
def Fu (t:List y6) (l:List yb) (vs:List yj) (k:y7):Bool:=decide (0≤Zb (xD t l k) vs 0)
theorem rr (q:List Int) (t:List y6) (l:List yb) (cs:List ya) (vs:List yj) (z k1 k2 k3 k4 k5:Int) (ht:Jl t) (hl:l.length≤1048576) (hv:vs.length≤1048576):K3 (q,t,l,cs,vs,z,k1,k2,k3,k4,k5)=some (Fu t l vs (k1,k2,k3,k4,k5)):=by
 unfold K3 db nz;refine (Kr (step:=jT _ _) (fun i=>(i,q,t,l,cs,vs,z,k1,k2,k3,k4,k5)) (xD t l (k1,k2,k3,k4,k5)) (fun _=>some true) (some false) w9 vs (by omega) ?_ ?_).trans ?_
 ·intro again i h0 h1;have hw:Go.IntKind.wrap .i64 (i+1)=i+1:=zb (by omega) (by omega);unfold jT xD nz;obtain ⟨⟨x1,x2,x3,x4⟩,hx⟩: ∃ x,yC vs i=x:=⟨_,rfl⟩
  have hx':vs.getD i.toNat w9=(x1,x2,x3,x4):=hx;rw [hx'];have e:=Ft q t l k1 k2 k3 k4 k5 x2 ht hl;simp only [yl,ym,h0,h1,yo,hw,hx,e,zzal0];by_cases hb:x3>k1<;>cases Rh t l (k1,k2,k3,k4,k5) x2<;>simp [hb]
 ·intro again i hi;unfold jT nz;simp only [yl,ym,y9 hi]
 ·unfold Fu;by_cases h:Zb (xD t l (k1,k2,k3,k4,k5)) vs 0<0
  ·rw [y0 h,yX (by omega)]
  ·rw [y9 h,yG (by omega)]
def Yz (k:y7):Bool:=Yn k.1 0 15&&(Yn k.2.1 1 60&&(Yn k.2.2.1 0 2&&(if k.2.2.1=1 then Yn k.2.2.2.1 0 23&&Yn k.2.2.2.2 0 999 else (k.2.2.2.1==0)&&(k.2.2.2.2==0))))
theorem af (a b c d e:Int):wY (a,b,c,d,e)=some (Yz (a,b,c,d,e)):=by
 unfold wY Yz nz;simp only [zK,zzal0];by_cases hc:c=1
 ·subst hc;cases Yn a 0 15<;>cases Yn b 1 60<;>cases Yn 1 0 2<;>cases Yn d 0 23<;>rfl
 ·have hc':(c==1)=false:=by simpa using hc
  rw [hc',y9 hc];cases Yn a 0 15<;>cases Yn b 1 60<;>cases Yn c 0 2<;>cases (d==0)<;>rfl
theorem ag (a b c d e:Int):K9 (a,b,c,d,e)=some (Yz (a,b,c,d,e)):=by
 unfold K9 Yz nz;simp only [Yq,zzal0];by_cases hc:c=1
 ·subst hc;cases Yn a 0 15<;>cases Yn b 1 60<;>cases Yn 1 0 2<;>cases Yn d 0 23<;>rfl
 ·have hc':(c !=1)=true:=by simpa using hc
  rw [hc',y9 hc];cases Yn a 0 15<;>cases Yn b 1 60<;>cases Yn c 0 2<;>cases (d==0)<;>rfl
def Wc (l:List y7) (i:Int) (a:y7):Bool:=decide (0<i)&& !qF (l.getD (i - 1).toNat zx) a
def bS (l:List y7):Bool:= !zk (fun _ a=> !Yz a) l 0&&(!zk (Wc l) l 0&&decide ((l.length:Int)≤60))
theorem Cz (l:List y7) (hl:l.length≤1073741824):Vy l=some (!zk (Wc l) l 0):=by
 unfold Vy fC nz;have key:=sT (step:=wa (fun x2=>some x2) (fun x3=>some true)) (fun i (_:Unit)=>(l,i)) (fun i (s:Unit) a=>if (decide (0<i)&& !qF (l.getD (i - 1).toNat zx) a)=true∨i=0 then .error (some false) else .ok s) (fun _=>some true) zx l (by omega) (fun i _=>1≤i) ?_ ?_ 1 (by omega) () (by decide)
 ·rw [key];have h1:zk (Wc l) l 0=zk (Wc l) (l.drop 1) 1:=by
   cases l with
   |nil=>rfl
   |cons a l=>simp [zk,Wc]
  rw [h1];have h2:=ri (fun i a=>decide ((decide (0<i)&& !qF (l.getD (i - 1).toNat zx) a)=true∨i=0)) (fun (s:Unit) _=>s) (some false) (fun _=>some true) (l.drop 1) 1 ();simp only [ym] at h2;rw [show (1:Int).toNat=1 from rfl,h2];have h3:zk (fun i a=>decide ((decide (0<i)&& !qF (l.getD (i - 1).toNat zx) a)=true∨i=0)) (l.drop 1) 1=zk (Wc l) (l.drop 1) 1:=Bf _ _ fun j a hj=>by
   unfold Wc;have: ¬ j=0:=by omega
   simp [this]
  rw [h3];cases zk (Wc l) (l.drop 1) 1<;>rfl
 ·intro again i s h0 h1 hI;have hi:1≤i:=by
   have:(1:Nat)≤i.toNat:=hI;omega
  have hw:Go.IntKind.wrap .i64 (i+1)=i+1:=zb (by omega) (by omega);have hm:Go.IntKind.wrap .i64 (i - 1)=i - 1:=zb (by omega) (by omega);refine ⟨?_,fun _ _=>by omega⟩;unfold wa nz;obtain ⟨⟨x1,x2,x3,x4,x5⟩,hx⟩: ∃ x,yy l i=x:=⟨_,rfl⟩
  have hx':l.getD i.toNat zx=(x1,x2,x3,x4,x5):=hx;obtain ⟨⟨y1,y2,y3,y4,y5⟩,hy⟩: ∃ y,yy l (i - 1)=y:=⟨_,rfl⟩
  have hy':l.getD (i - 1).toNat zx=(y1,y2,y3,y4,y5):=hy;rw [hx',hy'];have h3:0≤i - 1:=by omega
  have h4:i - 1<(l.length:Int):=by omega
  have h5:0<i:=by omega
  have h6: ¬ i=0:=by omega
  simp only [yl,ym,h0,h1,yo,hw,hm,hx,hy,h3,h4,h5,h6,iZ,zzal0,decide_true,jH,Vr];cases qF (y1,y2,y3,y4,y5) (x1,x2,x3,x4,x5)<;>rfl
 ·intro again i s hi;unfold wa nz;simp only [yl,ym,y9 hi]
theorem CA (l:List y7) (hl:l.length≤1073741824):cf l=some (bS l):=by
 unfold cf lT bS nz;refine (zZ (step:=kt _ _) (fun i=>(l,i)) (fun _ a=> !Yz a) (some false) (some (!zk (Wc l) l 0&&decide ((l.length:Int)≤60))) zx l (by omega) ?_ ?_).trans ?_
 ·intro again i h0 h1;have hw:Go.IntKind.wrap .i64 (i+1)=i+1:=zb (by omega) (by omega);unfold kt nz;obtain ⟨⟨x1,x2,x3,x4,x5⟩,hx⟩: ∃ x,yy l i=x:=⟨_,rfl⟩
  have hx':l.getD i.toNat zx=(x1,x2,x3,x4,x5):=hx;rw [hx'];simp only [yl,ym,h0,h1,yo,hw,hx,af,zzal0]
 ·intro again i hi;unfold kt nz;simp only [yl,ym,y9 hi,Cz l hl,zzal0];cases zk (Wc l) l 0<;>rfl
 ·cases zk (fun _ a=> !Yz a) l 0<;>rfl
theorem CB (l:List y7) (hl:l.length≤1073741824):cp l=some (bS l):=by
 unfold cp lY bS nz;refine (zZ (step:=kC _ _) (fun i=>(l,l,(l.length:Int),i)) (fun i a=> !Yz a||Wc l i a) (some false) (some (decide ((l.length:Int)≤60))) zx l (by omega) ?_ ?_).trans ?_
 ·intro again i h0 h1;have hw:Go.IntKind.wrap .i64 (i+1)=i+1:=zb (by omega) (by omega);have hm:Go.IntKind.wrap .i64 (i - 1)=i - 1:=zb (by omega) (by omega);unfold kC Wc nz;obtain ⟨⟨x1,x2,x3,x4,x5⟩,hx⟩: ∃ x,yy l i=x:=⟨_,rfl⟩
  have hx':l.getD i.toNat zx=(x1,x2,x3,x4,x5):=hx;obtain ⟨⟨y1,y2,y3,y4,y5⟩,hy⟩: ∃ y,yy l (i - 1)=y:=⟨_,rfl⟩
  have hy':l.getD (i - 1).toNat zx=(y1,y2,y3,y4,y5):=hy;rw [hx',hy'];simp only [yl,ym,h0,h1,yo,hw,hm,hx,hy,ag,i_,zzal0];cases Yz (x1,x2,x3,x4,x5)
  ·rfl
  ·by_cases h5:0<i
   ·have h3:0≤i - 1:=by omega
    have h4:i - 1<(l.length:Int):=by omega
    simp only [gt_iff_lt,h5,h3,h4,yo,decide_true];cases qF (y1,y2,y3,y4,y5) (x1,x2,x3,x4,x5)<;>rfl
   ·simp [h5]
 ·intro again i hi;unfold kC nz;simp only [yl,ym,y9 hi]
 ·rw [Fm];cases zk (fun _ a=> !Yz a) l 0<;>cases zk (Wc l) l 0<;>rfl
def gU (_:Int) (a:yc):Bool:= !bS a||((List.length a:Int)==0)
def bT (s:Int) (a:yc):Int:=Go.IntKind.wrap .i64 (s+(List.length a:Int))
def Z2 (n:List yc):Bool:= !zk gU n 0&&(decide ((n.length:Int)≤3)&&decide (n.foldl bT 0≤8))
theorem CC (n:List yc) (hn:n.length≤1073741824):Vz n=some (n.foldl bT 0):=by
 unfold Vz fD nz;refine Z7 (step:=wb _) (fun (i s:Int)=>(s,i,n)) (fun s=>some s) zN bT n (by omega) (fun _ _=>True) ?_ ?_ 0 trivial
 ·intro again i s h0 h1 _;have hw:Go.IntKind.wrap .i64 (i+1)=i+1:=zb (by omega) (by omega);refine ⟨?_,trivial⟩;unfold wb nz;simp only [yl,ym,h0,h1,yo,hw];rfl
 ·intro again i s hi;unfold wb nz;simp only [yl,ym,y9 hi]
theorem dC (n:List yc) (hn:n.length≤1073741824) (hm: ∀ s∈n,List.length s≤1073741824):Y6 n=some (Z2 n):=by
 unfold Y6 io Z2 nz;refine (zZ (step:=Wi _ _) (fun i=>(i,n)) gU (some false) (some (decide ((n.length:Int)≤3)&&decide (n.foldl bT 0≤8))) zN n (by omega) ?_ ?_).trans ?_
 ·intro again i h0 h1;have hw:Go.IntKind.wrap .i64 (i+1)=i+1:=zb (by omega) (by omega);have e:=CA (yK n i) (hm _ (zz zN n i h0 h1));unfold Wi gU nz;have hx:n.getD i.toNat zN=yK n i:=rfl;rw [hx];simp only [yl,ym,h0,h1,yo,hw,e,zzal0];cases bS (yK n i)
  ·rfl
  ·rfl
 ·intro again i hi;unfold Wi nz;simp only [yl,ym,y9 hi,CC n hn,zzal0];by_cases h3:(n.length:Int)≤3<;>simp [h3]
 ·cases zk gU n 0<;>rfl
theorem Bn (n:List yc) (hn:n.length≤1073741824) (hm: ∀ s∈n,List.length s≤1073741824):QO n=some (Z2 n):=by
 unfold QO iO Z2 nz;refine (rj (step:=Wv _ _) (fun (i s:Int)=>(s,n,(n.length:Int),i,n)) gU bT (some false) (fun s=>some (decide ((n.length:Int)≤3)&&decide (s≤8))) zN n (by omega) ?_ ?_ 0).trans ?_
 ·intro again i s h0 h1;have hw:Go.IntKind.wrap .i64 (i+1)=i+1:=zb (by omega) (by omega);have e:=CB (yK n i) (hm _ (zz zN n i h0 h1));unfold Wv gU bT nz;have hx:n.getD i.toNat zN=yK n i:=rfl;rw [hx];simp only [yl,ym,h0,h1,yo,hw,e,zzal0];cases bS (yK n i)
  ·rfl
  ·rfl
 ·intro again i s hi;unfold Wv nz;simp only [yl,ym,y9 hi];by_cases h3:(n.length:Int)≤3<;>simp [h3]
 ·cases zk gU n 0<;>rfl
def DW (a:y7):Int:=Go.IntKind.wrap .i64 (Go.IntKind.wrap .i64 ((64:Int)*a.1)+a.2.1)
def N8 (q:List Int) (i:Int) (_:Int) (a:y7):Bool:=decide (DW a<q.getD i.toNat 0)||(decide (i+1<(q.length:Int))&&decide (DW a≥q.getD (i+1).toNat 0))
theorem Jl.node {t:List y6} (h:Jl t) {n:List yc} (hn:n∈t):n.length≤1048576∧ ∀ s∈n,List.length s≤1048576:=vY h.sum hn
theorem Jl.yjC {t:List y6} (h:Jl t) {n:List yc} (hn:n∈t):Yh J8 n≤1048576:=by have h1:=(az qH hn).1;have h2:=m9 n;have h3:=h.sum;omega
theorem N9 {R:Type} (k0:(Int×Bool×Int×List yf×List y6×List yc)→Option R) (k1:(Int×Int×List yf×List y6×List yc)→Option R) (i k:Int) (q:List Int) (t:List y6) (n:List yc) (hk0:0≤k) (hk:k<(n.length:Int)) (hi0:0≤i) (hi:i<(q.length:Int)) (hq:q.length≤1048576) (hs:List.length (yK n k)≤1048576):
  aT k0 k1 (i,k,0,q,t,n)=if zk (N8 q i) (yK n k) 0=true then k0 (i,false,k,q,t,n) else k1 (i,k,q,t,n):=by
 unfold aT;refine zZ (step:=Wk k0 k1) (fun j=>(i,k,j,q,t,n)) (N8 q i) _ _ zx (yK n k) (by omega) ?_ ?_
 ·intro again j h0 h1;have hw:Go.IntKind.wrap .i64 (j+1)=j+1:=zb (by omega) (by omega);have hwi:Go.IntKind.wrap .i64 (i+1)=i+1:=zb (by omega) (by omega);unfold Wk N8 KK KJ DW nz;obtain ⟨⟨x1,x2,x3,x4,x5⟩,hx⟩: ∃ x,yy (yK n k) j=x:=⟨_,rfl⟩
  have hx':(yK n k).getD j.toNat zx=(x1,x2,x3,x4,x5):=hx;have e1:q.getD i.toNat 0=Y4 q i:=rfl;have e2:q.getD (i+1).toNat 0=Y4 q (i+1):=rfl;rw [hx',e1,e2];have hi1:0≤i+1:=by omega
  simp only [yl,ym,h0,h1,hk0,hk,hi0,hi,hi1,yo,hw,hwi,hx,zzal0];by_cases h2:Go.IntKind.wrap .i64 (Go.IntKind.wrap .i64 ((64:Int)*x1)+x2)<Y4 q i
  ·simp [h2]
  ·by_cases h3:i+1<(q.length:Int)
   ·simp [h2,h3]
   ·simp [h2,h3]
 ·intro again j hj;unfold Wk nz;simp only [yl,ym,hk0,hk,yo,y9 hj]
def Bo (q:List Int) (i:Int) (_:Int) (s:yc):Bool:=zk (N8 q i) s 0
def Na (n:y6):Bool:=((zm n).length:Int)==0
def Bp (q:List Int) (i:Int) (n:y6):Bool:=Z2 n&&(!(decide (0<i)&&Na n)&& !zk (Bo q i) n 0)
theorem Bq (q:List Int) (t:List y6) (i:Int) (ht:Jl t) (hi0:0≤i) (hi:i<(t.length:Int)) (hq:q.length=t.length):QB (q,t,i)=some (Bp q i (yt t i)):=by
 have hmem:yt t i∈t:=zz y_ t i hi0 hi;obtain ⟨hn,hs⟩:=ht.node hmem;have hlen:=ht.len;have hq1:i<(q.length:Int):=by omega
 have hq2:q.length≤1048576:=by omega
 have e1:=dC (yt t i) (by omega) (fun s hh=>by have:=hs s hh;omega);have e2:z7 (yt t i)=some (zm (yt t i)):=jC _ (by omega) (ht.yjC hmem);unfold QB Bp Na nz;simp only [hi0,hi,yo,e1,zzal0];generalize yt t i=n at*;cases Z2 n
 ·rfl
 ·have key:aV (fun x10=>some x10) (fun x11=>some true) (i,0,q,t,n)=some (!zk (Bo q i) n 0):=by
   unfold aV;refine (zZ (step:=Wl _ _) (fun k=>(i,k,q,t,n)) (Bo q i) (some false) (some true) zN n (by omega) ?_ ?_).trans ?_
   ·intro again k h0 h1;have hw:Go.IntKind.wrap .i64 (k+1)=k+1:=zb (by omega) (by omega);have hsk:List.length (yK n k)≤1048576:=hs _ (zz zN n k h0 h1);unfold Wl Bo nz;have hx:n.getD k.toNat zN=yK n k:=rfl;rw [hx];simp only [yl,ym,h1,yo,N9 _ _ i k q t n h0 h1 hi0 hq1 hq2 hsk,hw]
   ·intro again k hk;unfold Wl nz;simp only [yl,ym,y9 hk]
   ·cases zk (Bo q i) n 0<;>rfl
  simp only [key,e2,zzal0,yJ,yi,gt_iff_lt];by_cases h0:0<i
  ·simp only [h0,decide_true,yg,jH];cases (((zm n).length:Int)==0)<;>rfl
  ·simp only [h0,decide_false,yi,eS];rfl
theorem Nb {R:Type} (k0:(Int×Bool×List yc×Int×Int×List yf×List y6)→Option R) (k1:(Int×List yc×Int×Int×List yf×List y6)→Option R) (i k m:Int) (q:List Int) (t:List y6) (n:List yc) (s:List y7) (hi0:0≤i) (hi:i<(q.length:Int)) (hq:q.length≤1048576) (hs:s.length≤1048576):
  VQ k0 k1 (i,n,m,k,s,(s.length:Int),0,q,t)=if zk (N8 q i) s 0=true then k0 (i,false,n,m,k,q,t) else k1 (i,n,m,k,q,t):=by
 unfold VQ;refine zZ (step:=Jr k0 k1) (fun j=>(i,n,m,k,s,(s.length:Int),j,q,t)) (N8 q i) _ _ zx s (by omega) ?_ ?_
 ·intro again j h0 h1;have hw:Go.IntKind.wrap .i64 (j+1)=j+1:=zb (by omega) (by omega);have hwi:Go.IntKind.wrap .i64 (i+1)=i+1:=zb (by omega) (by omega);unfold Jr N8 fa DW nz;obtain ⟨⟨x1,x2,x3,x4,x5⟩,hx⟩: ∃ x,yy s j=x:=⟨_,rfl⟩
  have hx':s.getD j.toNat zx=(x1,x2,x3,x4,x5):=hx;have e1:q.getD i.toNat 0=Y4 q i:=rfl;have e2:q.getD (i+1).toNat 0=Y4 q (i+1):=rfl;rw [hx',e1,e2];have hi1:0≤i+1:=by omega
  simp only [yl,ym,h0,h1,hi0,hi,hi1,yo,hw,hwi,hx,zzal0];by_cases h2:Go.IntKind.wrap .i64 (Go.IntKind.wrap .i64 ((64:Int)*x1)+x2)<Y4 q i
  ·simp [h2]
  ·by_cases h3:i+1<(q.length:Int)
   ·simp [h2,h3]
   ·simp [h2,h3]
 ·intro again j hj;unfold Jr nz;simp only [yl,ym,y9 hj]
theorem sZ (q:List Int) (t:List y6) (i:Int) (ht:Jl t) (hi0:0≤i) (hi:i<(t.length:Int)) (hq:q.length=t.length):vE (q,t,i)=some (!zk (Bo q i) (yt t i) 0):=by
 have hmem:yt t i∈t:=zz y_ t i hi0 hi;obtain ⟨hn,hs⟩:=ht.node hmem;have hlen:=ht.len;have hq1:i<(q.length:Int):=by omega
 have hq2:q.length≤1048576:=by omega
 unfold vE em nz;simp only [hi0,hi,yo];generalize yt t i=n at*;refine (zZ (step:=Js _ _) (fun k=>(i,n,(n.length:Int),k,q,t)) (Bo q i) (some false) (some true) zN n (by omega) ?_ ?_).trans ?_
 ·intro again k h0 h1;have hw:Go.IntKind.wrap .i64 (k+1)=k+1:=zb (by omega) (by omega);have hsk:List.length (yK n k)≤1048576:=hs _ (zz zN n k h0 h1);unfold Js Bo nz;have hx:n.getD k.toNat zN=yK n k:=rfl;rw [hx];simp only [yl,ym,h0,h1,yo,Nb _ _ i k (n.length:Int) q t n _ hi0 hq1 hq2 hsk,hw]
 ·intro again k hk;unfold Js nz;simp only [yl,ym,y9 hk]
 ·cases zk (Bo q i) n 0<;>rfl
def y22 (q:List Int) (i:Int):Bool:=decide (0<i)&&decide (q.getD (i - 1).toNat 0≥q.getD i.toNat 0)
def eG (q:List Int) (i:Int) (n:y6):Bool:=y22 q i|| !Bp q i n
def ru (s:Int) (n:y6):Int:=Go.IntKind.wrap .i64 (s+((zm n).length:Int))
def ZX (q:List Int) (t:List y6):Bool:=
 Yn (t.length:Int) 1 20&&(decide (q.length=t.length)&&((q.getD 0 0==0)&&(!zk (eG q) t 0&&decide (((zV t).length:Int)≤60))))
theorem Ri: ∀ (t:List y6) (s:List y7),(s.length:Int)+Yh KY t≤1048576→t.foldl ru (s.length:Int)=((t.foldl vK s).length:Int)
 |[],_,_=>rfl
 |n::t,s,h=>by rw [Yp] at h;have h1:=Qr n;have h2:=m9 n;have h3:=kO qH t;have h4:(vK s n).length=s.length+(zm n).length:=yU;rw [Zl,Zl,show ru (s.length:Int) n=((vK s n).length:Int) by unfold ru;rw [h4,zb (by omega) (by omega)];omega];exact Ri t (vK s n) (by rw [h4];omega)
theorem dD (q:List Int) (t:List y6) (ht:Jl t):ZC (q,t)=some (ZX q t):=by
 have hlen:=ht.len;unfold ZC ZX nz;simp only [zK,zzal0];cases h1:Yn (t.length:Int) 1 20
 ·rfl
 by_cases hq:q.length=t.length
 ·have hq':((q.length:Int) !=(t.length:Int))=false:=by simp [hq]
  have hpos:0<(q.length:Int):=by have:=(zi.1 h1).1;omega
  have hd:decide (q.length=t.length)=true:=by simp [hq]
  simp only [hq',hd,yJ,yi,yg,zzal0,jH];rw [y0 (yP _),y0 (by omega)];have e0:Y4 q 0=q.getD 0 0:=rfl;rw [e0]
  try simp only [zzal0]
  by_cases hz:q.getD 0 0=0
  ·have hz1:(q.getD 0 0 !=0)=false:=by rw [hz];rfl
   have hz2:(q.getD 0 0==0)=true:=by rw [hz];rfl
   rw [hz1,hz2];simp only [yi,jH];unfold iq;refine (zZ (step:=Wm _ _) (fun i=>(i,q,t)) (eG q) (some false) (some (decide (((zV t).length:Int)≤60))) y_ t (by omega) ?_ ?_).trans ?_
   ·intro again i h0 h1;have hw:Go.IntKind.wrap .i64 (i+1)=i+1:=zb (by omega) (by omega);have hm:Go.IntKind.wrap .i64 (i - 1)=i - 1:=zb (by omega) (by omega);have e:=Bq q t i ht h0 h1 hq;unfold Wm eG y22 nz;have hx:t.getD i.toNat y_=yt t i:=rfl;have e1:q.getD i.toNat 0=Y4 q i:=rfl;have e2:q.getD (i - 1).toNat 0=Y4 q (i - 1):=rfl;rw [hx,e1,e2];simp only [yl,ym,h0,h1,yo,hw,hm,e,gt_iff_lt];by_cases h5:0<i
    ·rw [y0 h5,y0 (by omega),y0 (by omega),y0 (by omega)];simp only [h5,decide_true,zzal0,jH];cases decide (Y4 q (i - 1)≥Y4 q i)<;>cases Bp q i (yt t i)<;>rfl
    ·rw [y9 h5];simp only [h5,decide_false,zzal0,eS];cases Bp q i (yt t i)<;>rfl
   ·intro again i hi;have e:zA (q,t)=some (zV t):=Zw q t (by omega) ht.nodes ht.sum;unfold Wm nz;simp only [yl,ym,y9 hi,e,zzal0]
   ·cases zk (eG q) t 0<;>rfl
  ·have hz1:(q.getD 0 0 !=0)=true:=by simpa using hz
   have hz2:(q.getD 0 0==0)=false:=by simpa using hz
   rw [hz1,hz2];rfl
 ·have hq':((q.length:Int) !=(t.length:Int))=true:=by
   simp only [bne_iff_ne,ne_eq];omega
  have hd:decide (q.length=t.length)=false:=by simp [hq]
  simp only [hq',hd,yJ,yi,yg,zzal0,eS,Bool.and_false]
theorem Br (q:List Int) (t:List y6) (ht:Jl t):QQ (q,t)=some (ZX q t):=by
 have hlen:=ht.len;unfold QQ ZX nz;simp only [Yq,zzal0];cases h1:Yn (t.length:Int) 1 20
 ·rfl
 by_cases hq:q.length=t.length
 ·have hq':((q.length:Int) !=(t.length:Int))=false:=by simp [hq]
  have hpos:0<(q.length:Int):=by have:=(zi.1 h1).1;omega
  have hd:decide (q.length=t.length)=true:=by simp [hq]
  simp only [hq',hd,yJ,yi,yg,zzal0,jH];rw [y0 (yP _),y0 (by omega)];have e0:Y4 q 0=q.getD 0 0:=rfl;rw [e0]
  try simp only [zzal0]
  by_cases hz:q.getD 0 0=0
  ·have hz1:(q.getD 0 0 !=0)=false:=by rw [hz];rfl
   have hz2:(q.getD 0 0==0)=true:=by rw [hz];rfl
   rw [hz1,hz2];simp only [yi,jH];unfold iP;refine (rj (step:=Wx _ _) (fun (i s:Int)=>(s,t,(t.length:Int),i,q,t)) (eG q) ru (some false) (fun s=>some (decide (s≤60))) y_ t (by omega) ?_ ?_ 0).trans ?_
   ·intro again i s h0 h1;have hmem:yt t i∈t:=zz y_ t i h0 h1;obtain ⟨hn,hss⟩:=ht.node hmem;have hw:Go.IntKind.wrap .i64 (i+1)=i+1:=zb (by omega) (by omega);have hm:Go.IntKind.wrap .i64 (i - 1)=i - 1:=zb (by omega) (by omega);have e3:=Bn (yt t i) (by omega) (fun s hh=>by have:=hss s hh;omega);have e4:=sZ q t i ht h0 h1 hq;have e5:jd (yt t i)=some (zm (yt t i)):=fR _ (by omega) (ht.yjC hmem);unfold Wx eG y22 Bp Na ru nz;have hx:t.getD i.toNat y_=yt t i:=rfl;have e1:q.getD i.toNat 0=Y4 q i:=rfl;have e2:q.getD (i - 1).toNat 0=Y4 q (i - 1):=rfl;rw [hx,e1,e2];simp only [yl,ym,h0,h1,yo,hw,hm,e3,e4,e5,gt_iff_lt,zzal0];by_cases h5:0<i
    ·rw [y0 h5,y0 (by omega),y0 (by omega),y0 (by omega)];simp only [h5,decide_true,zzal0,jH,yo];cases decide (Y4 q (i - 1)≥Y4 q i)<;>cases Z2 (yt t i)<;>cases zk (Bo q i) (yt t i) 0<;>cases (((zm (yt t i)).length:Int)==0)<;>rfl
    ·rw [y9 h5];simp only [h5,decide_false,zzal0,eS,zP];cases Z2 (yt t i)<;>cases zk (Bo q i) (yt t i) 0<;>rfl
   ·intro again i s hi;unfold Wx nz;simp only [yl,ym,y9 hi]
   ·have:=Ri t [] (by have:=ht.sum;simpa using this);simp only [yr] at this;rw [show ((0:Nat):Int)=0 from rfl] at this;rw [this];unfold zV;cases zk (eG q) t 0<;>rfl
  ·have hz1:(q.getD 0 0 !=0)=true:=by simpa using hz
   have hz2:(q.getD 0 0==0)=false:=by simpa using hz
   rw [hz1,hz2];rfl
 ·have hq':((q.length:Int) !=(t.length:Int))=true:=by
   simp only [bne_iff_ne,ne_eq];omega
  have hd:decide (q.length=t.length)=false:=by simp [hq]
  simp only [hq',hd,yJ,yi,yg,zzal0,eS,Bool.and_false]
def isW (n:Int):Bool:=Yn n 0 65535
theorem mQ (x:Int):Y5 x=some (isW x):=by unfold Y5 nz;rw [zK];rfl
theorem T6 (x:Int):QS x=some (isW x):=by unfold QS nz;rw [Yq];rfl
def Bs (c:Int):Bool:=Yn c 97 122||Yn c 48 57
def cA (l:List UInt8):Bool:=l.all fun c=>Bs (c.toNat:Int)
def jq (s:ByteArray):Bool:=cA s.data.toList&&Yn s.size 1 6
theorem Li (c:UInt8):Go.IntKind.wrap .i64 (c.toNat:Int)=c.toNat:=by have:=c.toNat_lt;exact zb (by omega) (by omega)
theorem y23 (s:ByteArray) (i:Nat) (h:i<s.size):ByteArray.get s i h=s.data.toList[i]'(by rw [jG];exact h):=by rw [Array.getElem_toList];rfl
theorem drop_byte (s:ByteArray) (i:Nat) (h:i<s.size):s.data.toList.drop i=ByteArray.get s i h::s.data.toList.drop (i+1):=by rw [y23,← List.drop_eq_getElem_cons]
theorem kS (s:ByteArray) (hs:s.size≤maxLen):ZB s=some (jq s):=by
 have hm:(s.size:Int)≤9223372036854775807:=by simp only [maxLen] at hs;omega
 unfold ZB im nz;rw [Ym (fun t:ByteArray×Int=>t.1.size - t.2.toNat) (fun t=>t.1=s∧0≤t.2∧t.2≤s.size) (fun t=>if cA (t.1.data.toList.drop t.2.toNat) then some (Yn s.size 1 6) else some false) ?_ (s,0) ⟨rfl,by simp,by simp⟩ (by simp only [maxLen] at hs;simp;omega)]
 ·unfold jq;cases h:cA s.data.toList<;>simp [h]
 ·rintro again ⟨s',i⟩ ⟨rfl,h0,h1⟩ hag;simp only at h0 h1 hs hm ⊢;unfold aP nz;simp only [yl,ym];by_cases hi:i<(s'.size:Int)
  ·have hn:i.toNat<s'.size:=by omega
   rw [y0 hi,y0 h0,dif_pos hn];simp only [zK,zzal0,y0 h0,dif_pos hn,Li];rw [drop_byte s' i.toNat hn];have hw:Go.IntKind.wrap .i64 (i+1)=i+1:=zb (by omega) (by omega);have e1:(i+1).toNat=i.toNat+1:=by omega
   have hag':=hag (s',i+1) ⟨rfl,by simp only;omega,by simp only;omega⟩ (by simp only;omega);simp only [cA,List.all_cons,Bs] at hag' ⊢;rw [hw,hag',e1];obtain ⟨c,hc⟩: ∃ c,ByteArray.get s' i.toNat hn=c:=⟨_,rfl⟩
   simp only [hc];cases Yn (c.toNat:Int) 97 122<;>cases Yn (c.toNat:Int) 48 57<;>simp
  ·rw [y9 hi,aE (by rw [jG];show s'.size≤_;omega)];simp [cA,zK]
theorem Bt (s:ByteArray) (hs:s.size≤maxLen):QT s=some (jq s):=by
 have hm:(s.size:Int)≤9223372036854775807:=by simp only [maxLen] at hs;omega
 unfold QT iR nz;rw [Ym (fun t:ByteArray×Int=>t.1.size - t.2.toNat) (fun t=>t.1=s∧0≤t.2∧t.2≤s.size) (fun t=>if cA (t.1.data.toList.drop t.2.toNat) then some (Yn s.size 1 6) else some false) ?_ (s,0) ⟨rfl,by simp,by simp⟩ (by simp only [maxLen] at hs;simp;omega)]
 ·unfold jq;cases h:cA s.data.toList<;>simp [h]
 ·rintro again ⟨s',i⟩ ⟨rfl,h0,h1⟩ hag;simp only at h0 h1 hs hm ⊢;unfold bz nz;simp only [yl,ym];by_cases hi:i<(s'.size:Int)
  ·have hn:i.toNat<s'.size:=by omega
   rw [y0 hi,y0 h0,dif_pos hn];simp only [Yq,zzal0,y0 h0,dif_pos hn,Li];rw [drop_byte s' i.toNat hn];have hw:Go.IntKind.wrap .i64 (i+1)=i+1:=zb (by omega) (by omega);have e1:(i+1).toNat=i.toNat+1:=by omega
   have hag':=hag (s',i+1) ⟨rfl,by simp only;omega,by simp only;omega⟩ (by simp only;omega);simp only [cA,List.all_cons,Bs] at hag' ⊢;rw [hw,hag',e1];obtain ⟨c,hc⟩: ∃ c,ByteArray.get s' i.toNat hn=c:=⟨_,rfl⟩
   simp only [hc];cases Yn (c.toNat:Int) 97 122<;>cases Yn (c.toNat:Int) 48 57<;>simp
  ·rw [y9 hi,aE (by rw [jG];show s'.size≤_;omega)];simp [cA,Yq]
def Bu (l:List yb) (i:Int):List yb:=List.drop (Int.toNat (0:Int)) (List.take (Int.toNat i) l)
def u7 (l:List yb) (i:Int) (a:yb):Bool:= !Yn a.1 1 60||((decide (0<i)&&decide ((l.getD (i - 1).toNat YR).1≥a.1))||(a.2 !=0&&decide (Yr (Bu l i) a.2<0)))
def kh (l:List yb):Bool:= !zk (u7 l) l 0&&decide ((l.length:Int)≤16)
theorem Lj (l:List yb) (i:Int):(Bu l i).length≤l.length:=by unfold Bu;simp only [wU,Za];omega
theorem qK (l:List yb) (hl:l.length≤1048576):JQ l=some (kh l):=by
 unfold JQ ir kh nz;refine (zZ (step:=Wn _ _) (fun i=>(l,i)) (u7 l) (some false) (some (decide ((l.length:Int)≤16))) YR l (by omega) ?_ ?_).trans ?_
 ·intro again i h0 h1;have hw:Go.IntKind.wrap .i64 (i+1)=i+1:=zb (by omega) (by omega);have hm:Go.IntKind.wrap .i64 (i - 1)=i - 1:=zb (by omega) (by omega);unfold Wn u7 nz;obtain ⟨⟨x1,x2⟩,hx⟩: ∃ x,yT l i=x:=⟨_,rfl⟩
  have hx':l.getD i.toNat YR=(x1,x2):=hx;have hy:l.getD (i - 1).toNat YR=yT l (i - 1):=rfl;have e:YL (List.drop (Int.toNat (0:Int)) (List.take (Int.toNat i) l),x2)=some (Yr (Bu l i) x2):=jx (Bu l i) x2 (by have:=Lj l i;omega);rw [hx',hy];have h2:i≤(l.length:Int):=by omega
  simp only [yl,ym,h0,h1,h2,yo,hw,hm,hx,zK,e,zzal0,yP,gt_iff_lt];cases Yn x1 1 60
  ·rfl
  ·by_cases h5:0<i
   ·have h3:0≤i - 1:=by omega
    have h4:i - 1<(l.length:Int):=by omega
    simp only [h5,h3,h4,yo,decide_true];cases decide ((yT l (i - 1)).1≥x1)<;>cases (x2 !=0)<;>cases decide (Yr (Bu l i) x2<0)<;>rfl
   ·simp only [h5,zP,decide_false];cases (x2 !=0)<;>cases decide (Yr (Bu l i) x2<0)<;>rfl
 ·intro again i hi;unfold Wn nz;simp only [yl,ym,y9 hi]
 ·cases zk (u7 l) l 0<;>rfl
theorem Bv (l:List yb) (hl:l.length≤1048576):QR l=some (kh l):=by
 unfold QR iQ kh nz;refine (zZ (step:=Wy _ _) (fun i=>(l,l,(l.length:Int),i)) (u7 l) (some false) (some (decide ((l.length:Int)≤16))) YR l (by omega) ?_ ?_).trans ?_
 ·intro again i h0 h1;have hw:Go.IntKind.wrap .i64 (i+1)=i+1:=zb (by omega) (by omega);have hm:Go.IntKind.wrap .i64 (i - 1)=i - 1:=zb (by omega) (by omega);unfold Wy u7 nz;obtain ⟨⟨x1,x2⟩,hx⟩: ∃ x,yT l i=x:=⟨_,rfl⟩
  have hx':l.getD i.toNat YR=(x1,x2):=hx;have hy:l.getD (i - 1).toNat YR=yT l (i - 1):=rfl;have e:W6 (List.drop (Int.toNat (0:Int)) (List.take (Int.toNat i) l),x2)=some (Yr (Bu l i) x2):=fe (Bu l i) x2 (by have:=Lj l i;omega);rw [hx',hy];have h2:i≤(l.length:Int):=by omega
  simp only [yl,ym,h0,h1,h2,yo,hw,hm,hx,Yq,e,zzal0,yP,gt_iff_lt];cases Yn x1 1 60
  ·rfl
  ·by_cases h5:0<i
   ·have h3:0≤i - 1:=by omega
    have h4:i - 1<(l.length:Int):=by omega
    simp only [h5,h3,h4,yo,decide_true];cases decide ((yT l (i - 1)).1≥x1)<;>cases (x2 !=0)<;>cases decide (Yr (Bu l i) x2<0)<;>rfl
   ·simp only [h5,zP,decide_false];cases (x2 !=0)<;>cases decide (Yr (Bu l i) x2<0)<;>rfl
 ·intro again i hi;unfold Wy nz;simp only [yl,ym,y9 hi]
 ·cases zk (u7 l) l 0<;>rfl
def dE (id:Int) (s:List Int) (a:yb):List Int:=if (a.2==id&&id !=0)=true then s++[a.1] else s
def YO (l:List yb) (id:Int):List Int:=l.foldl (dE id) []
theorem Bw (id:Int) (s:List Int) (a:yb):(dE id s a).length≤s.length+1:=by unfold dE;split<;>simp
theorem qL (l:List yb) (id:Int) (hl:l.length≤1048576):WN (l,id)=some (YO l id):=by
 unfold WN iu YO nz;refine Z7 (step:=Wo _) (fun (i:Int) (s:List Int)=>(l,id,i,s)) (fun s=>some s) YR (dE id) l (by omega) (fun i s=>s.length≤i) ?_ ?_ [] (by simp)
 ·intro again i s h0 h1 hI;have hw:Go.IntKind.wrap .i64 (i+1)=i+1:=zb (by omega) (by omega);have hs:=Bw id s (l.getD i.toNat YR);refine ⟨?_,by omega⟩;have c1:(s.length+1)*8<140737488355328:=by omega
  clear hs;unfold Wo dE nz;obtain ⟨⟨x1,x2⟩,hx⟩: ∃ x,yT l i=x:=⟨_,rfl⟩
  have hx':l.getD i.toNat YR=(x1,x2):=hx;rw [hx'];simp only [yl,ym,h0,h1,yo,hw,hx,yp,yr,WY,c1];cases (x2==id)<;>cases (id !=0)<;>rfl
 ·intro again i s hi;unfold Wo nz;simp only [yl,ym,y9 hi]
theorem T7 (l:List yb):YO l 0=[]:=by
 have: ∀ (l:List yb) (s:List Int),l.foldl (dE 0) s=s:=by
  intro l;induction l with
  |nil=>intro s;rfl
  |cons a l ih=>intro s;rw [Zl,ih];unfold dE;simp
 exact this l []
theorem Bx (l:List yb) (id:Int) (hl:l.length≤1048576):QU (l,id)=some (YO l id):=by
 unfold QU nz;by_cases hid:id=0
 ·subst hid;rw [T7];rfl
 ·have ymL:(id==0)=false:=by simpa using hid
  have ymM:(id !=0)=true:=by simpa using hid
  simp only [ymL,yi];unfold iS YO;refine Z7 (step:=Wz _) (fun (i:Int) (s:List Int)=>(id,l,(l.length:Int),i,s)) (fun s=>some s) YR (dE id) l (by omega) (fun i s=>s.length≤i) ?_ ?_ [] (by simp)
  ·intro again i s h0 h1 hI;have hw:Go.IntKind.wrap .i64 (i+1)=i+1:=zb (by omega) (by omega);have hs:=Bw id s (l.getD i.toNat YR);refine ⟨?_,by omega⟩;have c1:(s.length+1)*8<140737488355328:=by omega
   clear hs;unfold Wz dE nz;obtain ⟨⟨x1,x2⟩,hx⟩: ∃ x,yT l i=x:=⟨_,rfl⟩
   have hx':l.getD i.toNat YR=(x1,x2):=hx;rw [hx'];simp only [yl,ym,h0,h1,yo,hw,hx,yp,yr,WY,c1,ymM];cases (x2==id)<;>rfl
  ·intro again i s hi;unfold Wz nz;simp only [yl,ym,y9 hi]
def Bz (_:Int) (a:ya):Bool:= !Yn a.1 0 999||(!isW a.2.2||(!a.2.1&&a.2.2 !=0))
def ZJ (l:List ya):Bool:= !zk Bz l 0&&((l.length:Int)==24)
theorem bU (l:List ya) (hl:l.length≤1048576):wg l=some (ZJ l):=by
 unfold wg fE ZJ nz;refine (zZ (step:=we _ _) (fun i=>(l,i)) Bz (some false) (some ((l.length:Int)==24)) jo l (by omega) ?_ ?_).trans ?_
 ·intro again i h0 h1;have hw:Go.IntKind.wrap .i64 (i+1)=i+1:=zb (by omega) (by omega);unfold we Bz nz;obtain ⟨⟨x1,x2,x3⟩,hx⟩: ∃ x,yD l i=x:=⟨_,rfl⟩
  have hx':l.getD i.toNat jo=(x1,x2,x3):=hx;rw [hx'];simp only [yl,ym,h0,h1,yo,hw,hx,zK,mQ,zzal0];cases Yn x1 0 999<;>cases isW x3<;>cases x2<;>cases (x3 !=0)<;>rfl
 ·intro again i hi;unfold we nz;simp only [yl,ym,y9 hi]
 ·cases zk Bz l 0<;>rfl
theorem up (l:List ya) (hl:l.length≤1048576):VT l=some (ZJ l):=by
 unfold VT fK ZJ nz;refine (zZ (step:=ww _ _) (fun i=>(l,l,(l.length:Int),i)) Bz (some false) (some ((l.length:Int)==24)) jo l (by omega) ?_ ?_).trans ?_
 ·intro again i h0 h1;have hw:Go.IntKind.wrap .i64 (i+1)=i+1:=zb (by omega) (by omega);unfold ww Bz nz;obtain ⟨⟨x1,x2,x3⟩,hx⟩: ∃ x,yD l i=x:=⟨_,rfl⟩
  have hx':l.getD i.toNat jo=(x1,x2,x3):=hx;rw [hx'];simp only [yl,ym,h0,h1,yo,hw,hx,Yq,T6,zzal0];cases Yn x1 0 999<;>cases isW x3<;>cases x2<;>cases (x3 !=0)<;>rfl
 ·intro again i hi;unfold ww nz;simp only [yl,ym,y9 hi]
 ·cases zk Bz l 0<;>rfl
def rv (s:Int) (a:ya):Int:=if a.2.1=true then Go.IntKind.wrap .i64 (s+1) else s
def u9 (l:List ya):Int:=l.foldl rv 0
theorem Fv (l:List ya) (hl:l.length≤1048576):kY l=some (u9 l):=by
 unfold kY cZ u9 nz;refine Z7 (step:=jR _) (fun (i s:Int)=>(l,s,i)) (fun s=>some s) jo rv l (by omega) (fun _ _=>True) ?_ ?_ 0 trivial
 ·intro again i s h0 h1 _;have hw:Go.IntKind.wrap .i64 (i+1)=i+1:=zb (by omega) (by omega);refine ⟨?_,trivial⟩;unfold jR rv nz;obtain ⟨⟨x1,x2,x3⟩,hx⟩: ∃ x,yD l i=x:=⟨_,rfl⟩
  have hx':l.getD i.toNat jo=(x1,x2,x3):=hx;rw [hx'];simp only [yl,ym,h0,h1,yo,hw,hx];cases x2<;>rfl
 ·intro again i s hi;unfold jR nz;simp only [yl,ym,y9 hi]
theorem Fw (l:List ya) (hl:l.length≤1048576):Ka l=some (u9 l):=by
 unfold Ka dj u9 nz;refine Z7 (step:=jX _) (fun (i s:Int)=>(s,l,(l.length:Int),i)) (fun s=>some s) jo rv l (by omega) (fun _ _=>True) ?_ ?_ 0 trivial
 ·intro again i s h0 h1 _;have hw:Go.IntKind.wrap .i64 (i+1)=i+1:=zb (by omega) (by omega);refine ⟨?_,trivial⟩;unfold jX rv nz;obtain ⟨⟨x1,x2,x3⟩,hx⟩: ∃ x,yD l i=x:=⟨_,rfl⟩
  have hx':l.getD i.toNat jo=(x1,x2,x3):=hx;rw [hx'];simp only [yl,ym,h0,h1,yo,hw,hx];cases x2<;>rfl
 ·intro again i s hi;unfold jX nz;simp only [yl,ym,y9 hi]
def ah (l:List ya) (i gen:Int):Int×Bool:=
 if Yn i 0 ((l.length:Int) - 1)&&((l.getD i.toNat jo).2.1&&((l.getD i.toNat jo).1==gen)) then ((l.getD i.toNat jo).2.2,true) else (0,false)
theorem mg (l:List ya) (i gen:Int) (hl:l.length≤1048576):KL (l,i,gen)=some (ah l i gen):=by
 unfold KL ah nz;have hm:Go.IntKind.wrap .i64 ((l.length:Int) - 1)=(l.length:Int) - 1:=zb (by omega) (by omega);obtain ⟨⟨x1,x2,x3⟩,hx⟩: ∃ x,yD l i=x:=⟨_,rfl⟩
 have hx':l.getD i.toNat jo=(x1,x2,x3):=hx;rw [hx'];simp only [hm,hx,zK,zzal0];by_cases hr:Yn i 0 ((l.length:Int) - 1)=true
 ·obtain ⟨h0,h1⟩:=zi.1 hr;rw [hr,y0 h0,y0 (by omega),y0 h0,y0 (by omega),y0 h0,y0 (by omega)];by_cases hg:x1=gen
  ·have g1:(x1 !=gen)=false:=by simp [hg]
   have g2:(x1==gen)=true:=by simp [hg]
   rw [g1,g2];cases x2<;>rfl
  ·have g1:(x1 !=gen)=true:=by simpa using hg
   have g2:(x1==gen)=false:=by simpa using hg
   rw [g1,g2];cases x2<;>rfl
 ·have:Yn i 0 ((l.length:Int) - 1)=false:=by simpa using hr
  rw [this];rfl
theorem BA (l:List ya) (i gen:Int) (hl:l.length≤1048576):QW (l,i,gen)=some (ah l i gen):=by rw [← mg l i gen hl];unfold QW KL nz;simp only [Yq,zK]
theorem Ll {A:Type} (p:A→Bool): ∀ (l:List A) (i j:Int),0≤i→decide (0≤Zb p l i)=zk (fun _ a=>p a) l j
 |[],i,j,_=>rfl
 |a::l,i,j,h=>by
  rw [Zb,zk,← Ll p l (i+1) (j+1) (by omega)];cases p a with
  |true=>simp [h]
  |false=>rfl
theorem getD_take {A:Type} (da:A) (l:List A) (i j:Int) (h0:0≤j) (h:j<i):(l.take i.toNat).getD j.toNat da=l.getD j.toNat da:=by rw [Zr,Zr,Vp,y0 (by omega)]
theorem take_len {A:Type} (l:List A) (i:Int) (h0:0≤i) (h:i≤(l.length:Int)):((l.take i.toNat).length:Int)=i:=by rw [Za];omega
def kj (age:Int) (_:Int) (u:yj):Bool:=u.2.1==age
def Fx (vs:List yj) (l:List yb) (i:Int) (v:yj):Bool:=
 !jq v.1||(!Yn v.2.2.1 1 12||(decide (Yr l v.2.1<0)||(decide (((YO l v.2.1).length:Int)>0)||((decide (0<i)&& !Go.Op.bytesLess (ByteArray.toList (vs.getD (i - 1).toNat w9).1) (ByteArray.toList v.1))||zk (kj v.2.1) (vs.take i.toNat) 0))))
def qM (vs:List yj) (l:List yb):Bool:= !zk (Fx vs l) vs 0&&decide ((vs.length:Int)≤6)
theorem uq {R:Type} (k0:(Bool×Int×List yf×List y6×List yb×List ya×List yj×Int)→Option R) (k1:(Int×List yf×List y6×List yb×List ya×List yj×Int)→Option R) (i:Int) (q:List Int) (t:List y6) (l:List yb) (cs:List ya) (vs:List yj) (z:Int) (v1:ByteArray) (v2 v3:Int) (v4:Bool) (h0:0≤i) (h1:i≤(vs.length:Int)) (hv:vs.length≤1048576):
  Q4 k0 k1 (i,0,q,t,l,cs,vs,z,v1,v2,v3,v4)=if zk (kj v2) (vs.take i.toNat) 0=true then k0 (false,i,q,t,l,cs,vs,z) else k1 (i,q,t,l,cs,vs,z):=by
 unfold Q4;have hlen:=take_len vs i h0 h1;refine zZ (step:=wh k0 k1) (fun k=>(i,k,q,t,l,cs,vs,z,v1,v2,v3,v4)) (kj v2) _ _ w9 (vs.take i.toNat) (by omega) ?_ ?_
 ·intro again k hk0 hk1;rw [hlen] at hk1;have hw:Go.IntKind.wrap .i64 (k+1)=k+1:=zb (by omega) (by omega);have hk2:k<(vs.length:Int):=by omega
  unfold wh kj nz;rw [getD_take w9 vs i k hk0 hk1];have hx:vs.getD k.toNat w9=yC vs k:=rfl;rw [hx];simp only [yl,ym,hk0,hk1,hk2,yo,hw]
 ·intro again k hk;rw [hlen] at hk;unfold wh nz;simp only [yl,ym,y9 hk]
theorem Fy (q:List Int) (t:List y6) (l:List yb) (cs:List ya) (vs:List yj) (z:Int) (hl:l.length≤1048576) (hv:vs.length≤1048576) (T8: ∀ v∈vs,ByteArray.size v.1≤maxLen):VC (q,t,l,cs,vs,z)=some (qM vs l):=by
 unfold VC fF qM nz;refine (zZ (step:=wi _ _) (fun i=>(i,q,t,l,cs,vs,z)) (Fx vs l) (some false) (some (decide ((vs.length:Int)≤6))) w9 vs (by omega) ?_ ?_).trans ?_
 ·intro again i h0 h1;have hw:Go.IntKind.wrap .i64 (i+1)=i+1:=zb (by omega) (by omega);have hm:Go.IntKind.wrap .i64 (i - 1)=i - 1:=zb (by omega) (by omega);have hmem:=T8 _ (zz w9 vs i h0 h1);unfold wi Fx nz;obtain ⟨⟨x1,x2,x3,x4⟩,hx⟩: ∃ x,yC vs i=x:=⟨_,rfl⟩
  have hx':vs.getD i.toNat w9=(x1,x2,x3,x4):=hx;have hy:vs.getD (i - 1).toNat w9=yC vs (i - 1):=rfl;rw [hx'] at hmem;rw [hx',hy];have e1:=kS x1 hmem;have e2:=jx l x2 (by omega);have e3:=qL l x2 hl;simp only [yl,ym,h0,h1,yo,hw,hm,hx,zK,e1,e2,e3,uq _ _ i q t l cs vs z x1 x2 x3 x4 h0 (by omega) hv,zzal0,gt_iff_lt];cases jq x1
  ·rfl
  by_cases h5:0<i
  ·have h3:0≤i - 1:=by omega
   have h4:i - 1<(vs.length:Int):=by omega
   simp only [h5,h3,h4,yo,decide_true];by_cases ha:Yr l x2<0<;>by_cases hk:(0:Int)<((YO l x2).length:Int)<;>simp only [ha,hk,yo,zP,decide_true,decide_false]<;>cases Go.Op.bytesLess (ByteArray.toList (yC vs (i - 1)).1) (ByteArray.toList x1)<;>cases Yn x3 1 12<;>cases zk (kj x2) (vs.take i.toNat) 0<;>rfl
  ·simp only [h5,zP,decide_false];by_cases ha:Yr l x2<0<;>by_cases hk:(0:Int)<((YO l x2).length:Int)<;>simp only [ha,hk,yo,zP,decide_true,decide_false]<;>cases Yn x3 1 12<;>cases zk (kj x2) (vs.take i.toNat) 0<;>rfl
 ·intro again i hi;unfold wi nz;simp only [yl,ym,y9 hi]
 ·cases zk (Fx vs l) vs 0<;>rfl
theorem Lm (l:List yj) (v1:ByteArray) (v2 v3:Int) (v4:Bool) (hl:l.length≤1048576):zy (l,v1,v2,v3,v4)=some (zk (kj v2) l 0,v1,v2,v3,v4):=by
 have key:Y0 (l,v1,v2,v3,v4)=some (Zb (fun u:yj=>u.2.1==v2) l 0,v1,v2,v3,v4):=by
  unfold Y0 ZG nz;refine (Kr (step:=zG _ _) (fun i=>(l,(l.length:Int),i,v1,v2,v3,v4)) (fun u:yj=>u.2.1==v2) (fun x=>some (x,v1,v2,v3,v4)) (some (-1,v1,v2,v3,v4)) w9 l (by omega) ?_ ?_).trans ?_
  ·intro again i h0 h1;have hw:Go.IntKind.wrap .i64 (i+1)=i+1:=zb (by omega) (by omega);unfold zG bC nz;simp only [yl,ym,h0,h1,yo,hw,zzal0];rfl
  ·intro again i hi;unfold zG nz;simp only [yl,ym,y9 hi]
  ·rcases du (fun u:yj=>u.2.1==v2) w9 l 0 (yP _) with h|⟨h1,h2,h3⟩
   ·rw [h];rfl
   ·rw [y9 (by omega)]
 unfold zy nz;rw [key];simp only [zzal0,ge_iff_le];rw [Ll _ l 0 0 (yP _)];rfl
theorem Fz (q:List Int) (t:List y6) (l:List yb) (cs:List ya) (vs:List yj) (z:Int) (hl:l.length≤1048576) (hv:vs.length≤1048576) (T8: ∀ v∈vs,ByteArray.size v.1≤maxLen):QV (q,t,l,cs,vs,z)=some (qM vs l):=by
 unfold QV iT qM nz;refine (zZ (step:=WA _ _) (fun i=>(vs,(vs.length:Int),i,q,t,l,cs,vs,z)) (Fx vs l) (some false) (some (decide ((vs.length:Int)≤6))) w9 vs (by omega) ?_ ?_).trans ?_
 ·intro again i h0 h1;have hw:Go.IntKind.wrap .i64 (i+1)=i+1:=zb (by omega) (by omega);have hm:Go.IntKind.wrap .i64 (i - 1)=i - 1:=zb (by omega) (by omega);have hmem:=T8 _ (zz w9 vs i h0 h1);unfold WA Fx nz;obtain ⟨⟨x1,x2,x3,x4⟩,hx⟩: ∃ x,yC vs i=x:=⟨_,rfl⟩
  have hx':vs.getD i.toNat w9=(x1,x2,x3,x4):=hx;have hy:vs.getD (i - 1).toNat w9=yC vs (i - 1):=rfl;rw [hx'] at hmem;rw [hx',hy];have e1:=Bt x1 hmem;have e2:=fe l x2 (by omega);have e3:=Bx l x2 hl;have e4:zy (List.drop (Int.toNat (0:Int)) (List.take (Int.toNat i) vs),x1,x2,x3,x4)=some (zk (kj x2) (vs.take i.toNat) 0,x1,x2,x3,x4):=Lm (vs.take i.toNat) x1 x2 x3 x4 (by simp only [Za];omega);have h2:i≤(vs.length:Int):=by omega
  simp only [yl,ym,h0,h1,h2,yo,hw,hm,hx,Yq,e1,e2,e3,e4,zzal0,gt_iff_lt,yP];cases jq x1
  ·rfl
  by_cases h5:0<i
  ·have h3:0≤i - 1:=by omega
   have h4:i - 1<(vs.length:Int):=by omega
   simp only [h5,h3,h4,yo,decide_true];by_cases ha:Yr l x2<0<;>by_cases hk:(0:Int)<((YO l x2).length:Int)<;>simp only [ha,hk,yo,zP,decide_true,decide_false]<;>cases Go.Op.bytesLess (ByteArray.toList (yC vs (i - 1)).1) (ByteArray.toList x1)<;>cases Yn x3 1 12<;>cases zk (kj x2) (vs.take i.toNat) 0<;>rfl
  ·simp only [h5,zP,decide_false];by_cases ha:Yr l x2<0<;>by_cases hk:(0:Int)<((YO l x2).length:Int)<;>simp only [ha,hk,yo,zP,decide_true,decide_false]<;>cases Yn x3 1 12<;>cases zk (kj x2) (vs.take i.toNat) 0<;>rfl
 ·intro again i hi;unfold WA nz;simp only [yl,ym,y9 hi]
 ·cases zk (Fx vs l) vs 0<;>rfl
def JL (c:Int) (_:Int) (u:y7):Bool:=(u.2.2.1==1)&&(u.2.2.2.1==c)
def CD (ks:List y7) (l:List yb) (cs:List ya) (i:Int) (a:y7):Bool:=
 decide (Yr l a.2.1<0)||((a.2.2.1==1)&&(!(ah cs a.2.2.2.1 a.2.2.2.2).2||zk (JL a.2.2.2.1) (ks.take i.toNat) 0))
def s_ (n:Int) (a:y7):Int:=if (a.2.2.1==1)=true then Go.IntKind.wrap .i64 (n+1) else n
def dF (ks:List y7) (l:List yb) (cs:List ya):Bool:= !zk (CD ks l cs) ks 0&&(ks.foldl s_ 0==u9 cs)
theorem ur {R:Type} (k0:(Bool×Int×Int×List yf×List y6×List yb×List ya×List yj×Int×List y7)→Option R) (k1:(Int×Int×List yf×List y6×List yb×List ya×List yj×Int×List y7)→Option R) (n i:Int) (q:List Int) (t:List y6) (l:List yb) (cs:List ya) (vs:List yj) (z:Int) (ks:List y7) (h0:0≤i) (h1:i<(ks.length:Int)) (hk:ks.length≤1048576):
  VE k0 k1 (n,i,0,q,t,l,cs,vs,z,ks)=if zk (JL (yy ks i).2.2.2.1) (ks.take i.toNat) 0=true then k0 (false,n,i,q,t,l,cs,vs,z,ks) else k1 (n,i,q,t,l,cs,vs,z,ks):=by
 unfold VE;have hlen:=take_len ks i h0 (by omega);refine zZ (step:=Jo k0 k1) (fun k=>(n,i,k,q,t,l,cs,vs,z,ks)) (JL (yy ks i).2.2.2.1) _ _ zx (ks.take i.toNat) (by omega) ?_ ?_
 ·intro again k hk0 hk1;rw [hlen] at hk1;have hw:Go.IntKind.wrap .i64 (k+1)=k+1:=zb (by omega) (by omega);have hk2:k<(ks.length:Int):=by omega
  unfold Jo JL nz;rw [getD_take zx ks i k hk0 hk1];have hx:ks.getD k.toNat zx=yy ks k:=rfl;rw [hx];simp only [yl,ym,hk0,hk1,hk2,h0,h1,yo,hw];cases ((yy ks k).2.2.1==1)<;>cases ((yy ks k).2.2.2.1==(yy ks i).2.2.2.1)<;>rfl
 ·intro again k hk;rw [hlen] at hk;unfold Jo nz;simp only [yl,ym,y9 hk]
theorem ut (q:List Int) (t:List y6) (l:List yb) (cs:List ya) (vs:List yj) (z:Int) (ht:Jl t) (hl:l.length≤1048576) (hc:cs.length≤1048576):VF (q,t,l,cs,vs,z)=some (dF (zV t) l cs):=by
 unfold VF fG dF nz;have hk:=ht.keys;have e:zA (q,t)=some (zV t):=Zw q t (by have:=ht.len;omega) ht.nodes ht.sum;simp only [e,zzal0];generalize zV t=ks at hk;refine (rj (step:=wj _ _) (fun (i n:Int)=>(n,i,q,t,l,cs,vs,z,ks)) (CD ks l cs) s_ (some false) (fun n=>some (n==u9 cs)) zx ks (by omega) ?_ ?_ 0).trans ?_
 ·intro again i n h0 h1;have hw:Go.IntKind.wrap .i64 (i+1)=i+1:=zb (by omega) (by omega);unfold wj CD s_ nz;have hin:=fun (k0:(Bool×Int×Int×List yf×List y6×List yb×List ya×List yj×Int×List y7)→Option Bool) k1 m=>ur k0 k1 m i q t l cs vs z ks h0 h1 hk;obtain ⟨⟨x1,x2,x3,x4,x5⟩,hx⟩: ∃ x,yy ks i=x:=⟨_,rfl⟩
  have hx':ks.getD i.toNat zx=(x1,x2,x3,x4,x5):=hx;rw [hx'];rw [hx] at hin;have e1:=jx l x2 (by omega);have e2:=mg cs x4 x5 hc;simp only [yl,ym,h0,h1,yo,hw,hx,e1,e2,hin,zzal0];by_cases ha:Yr l x2<0
  ·simp only [ha,yo,decide_true,Bool.true_or]
  ·simp only [ha,zP,decide_false,oD];by_cases h3:x3=1
   ·have g1:(x3==1)=true:=by simp [h3]
    have g2:(x3 !=1)=false:=by simp [h3]
    rw [g1,g2];cases (ah cs x4 x5).2<;>cases zk (JL x4) (ks.take i.toNat) 0<;>rfl
   ·have g1:(x3==1)=false:=by simpa using h3
    have g2:(x3 !=1)=true:=by simpa using h3
    rw [g1,g2];rfl
 ·intro again i n hi;unfold wj nz;simp only [yl,ym,y9 hi,Fv cs hc,zzal0]
 ·cases zk (CD ks l cs) ks 0<;>rfl
theorem Ln (c:Int): ∀ (l:List y7) (i:Int) (j:Nat),j<l.length→zk (JL c) (l.take (j+1)) i=(zk (JL c) (l.take j) i||JL c 0 (l.getD j zx))
 |a::l,i,0,_=>by simp [zk,JL]
 |a::l,i,j+1,h=>by have:=Ln c l (i+1) j (by simpa using h);rw [List.take_succ_cons,zk,this,List.take_succ_cons,zk,rU,Bool.or_assoc]
def DX (s:Int×List Bool) (a:y7):Int×List Bool:=(s_ s.1 a,if (a.2.2.1==1)=true then s.2.set a.2.2.2.1.toNat true else s.2)
theorem y24: ∀ (l:List y7) (s:Int×List Bool),(l.foldl DX s).1=l.foldl s_ s.1
 |[],_=>rfl
 |a::l,s=>y24 l (DX s a)
theorem uu (q:List Int) (t:List y6) (l:List yb) (cs:List ya) (vs:List yj) (z:Int) (ht:Jl t) (hl:l.length≤1048576) (hc:cs.length=24):VV (q,t,l,cs,vs,z)=some (dF (zV t) l cs):=by
 unfold VV fL dF nz;have hk:=ht.keys;have e:WB (q,t)=some (zV t):=sS q t (by have:=ht.len;omega) ht.nodes ht.sum;rw [y0 (by omega),y0 (yP _),y0 (by omega)];simp only [e,zzal0];generalize zV t=ks at hk;refine (sT (step:=wx _ _) (fun (i:Int) (s:Int×List Bool)=>(s.1,(ks.length:Int),i,q,t,l,cs,vs,z,s.2,ks)) (fun i s a=>if CD ks l cs i a=true then .error (some false) else .ok (DX s a)) (fun s=>some (s.1==u9 cs)) zx ks (by omega) (fun j s=>s.2.length=24∧ ∀ c:Nat,c<24→s.2.getD c false=zk (JL (c:Int)) (ks.take j) 0) ?_ ?_ 0 (yP _) (0,List.replicate (Int.toNat 24) MZ) ⟨rfl,fun c hc=> ?_⟩).trans ?_
 ·rintro again i ⟨n,tk⟩ h0 h1 ⟨hI1,hI2⟩;simp only at hI1 hI2;have hw:Go.IntKind.wrap .i64 (i+1)=i+1:=zb (by omega) (by omega);obtain ⟨⟨x1,x2,x3,x4,x5⟩,hx⟩: ∃ x,yy ks i=x:=⟨_,rfl⟩
  have hx':ks.getD i.toNat zx=(x1,x2,x3,x4,x5):=hx;have hgd:ks.getD i.toNat zx=ks.getD i.toNat zx:=rfl;have e1:=fe l x2 (by omega);have e2:=BA cs x4 x5 (by omega);have hcell:(ah cs x4 x5).2=true→0≤x4∧x4<24:=fun h=>by
   unfold ah at h;split at h
   ·rename_i hh;simp only [zzal10] at hh;have:=zi.1 hh.1;omega
   ·cases h
  rw [hx'];refine ⟨?_,fun s' hs'=> ?_⟩
  ·unfold wx CD DX s_ nz;simp only [yl,ym,h0,h1,yo,hw,hx,e1,e2,zzal0];by_cases ha:Yr l x2<0
   ·simp only [ha,yo,decide_true,Bool.true_or]
   ·simp only [ha,zP,decide_false,oD];by_cases h3:x3=1
    ·have g1:(x3==1)=true:=by simp [h3]
     have g2:(x3 !=1)=false:=by simp [h3]
     rw [g1,g2];cases hok:(ah cs x4 x5).2 with
     |false=>rfl
     |true=>
      obtain ⟨b0,b1⟩:=hcell hok;have b2:x4<(tk.length:Int):=by omega
      have hrd:O7 tk x4=zk (JL x4) (ks.take i.toNat) 0:=by have:=hI2 x4.toNat (by omega);rw [show ((x4.toNat:Nat):Int)=x4 by omega] at this;exact this
      simp only [b0,b2,yo,hrd];cases zk (JL x4) (ks.take i.toNat) 0<;>rfl
    ·have g1:(x3==1)=false:=by simpa using h3
     have g2:(x3 !=1)=true:=by simpa using h3
     rw [g1,g2];rfl
  ·by_cases hb:CD ks l cs i (x1,x2,x3,x4,x5)=true
   ·rw [y0 hb] at hs';cases hs'
   ·rw [y9 hb] at hs';injection hs' with hs';subst hs';have hsucc: ∀ c:Int,zk (JL c) (ks.take (i.toNat+1)) 0=(zk (JL c) (ks.take i.toNat) 0||JL c 0 (x1,x2,x3,x4,x5)):=fun c=>by
     rw [Ln c ks 0 i.toNat (by omega),hx']
    unfold DX;simp only;by_cases h3:x3=1
    ·have g1:(x3==1)=true:=by simp [h3]
     simp only [g1,yo];have hok:(ah cs x4 x5).2=true:=by
      unfold CD at hb;simp only [g1] at hb;cases hh:(ah cs x4 x5).2 with
      |true=>rfl
      |false=>rw [hh] at hb;simp at hb
     obtain ⟨b0,b1⟩:=hcell hok;refine ⟨by simpa using hI1,fun c hc=> ?_⟩;rw [hsucc,← hI2 c hc];unfold JL;simp only [g1,jH];rw [Zr,Zr];by_cases hcx:c=x4.toNat
     ·rw [← hcx,nM (by omega)];have:(x4==(c:Int))=true:=by
       simp only [vM];omega
      rw [this];simp
     ·rw [eQ (fun h=>hcx h.symm)];have:(x4==(c:Int))=false:=by
       simp only [ls,ne_eq];omega
      rw [this];simp
    ·have g1:(x3==1)=false:=by simpa using h3
     simp only [g1,J6,zP];refine ⟨hI1,fun c hc=> ?_⟩;rw [hsucc,← hI2 c hc];unfold JL;simp only [g1,eS,Bool.or_false]
 ·rintro again i ⟨n,tk⟩ hi;unfold wx nz;simp only [yl,ym,y9 hi,Fw cs (by omega),zzal0];rw [Bool.beq_comm]
 ·show (List.replicate 24 false).getD c false=_;rw [Zr,xM];simp [zk,hc]
 ·have:=ri (CD ks l cs) DX (some false) (fun s:Int×List Bool=>some (s.1==u9 cs)) ks 0 (0,List.replicate (Int.toNat 24) MZ);rw [show (0:Int).toNat=0 from rfl,List.drop_zero,this,y24];cases zk (CD ks l cs) ks 0<;>rfl
def gV (z:Int) (_:Int) (a:yb):Bool:=decide (a.1≥z)
def zc (q:List Int) (t:List y6) (l:List yb) (cs:List ya) (vs:List yj) (z:Int):Bool:=
 ZX q t&&(kh l&&(ZJ cs&&(Yn z 1 61&&(!zk (gV z) l 0&&(qM vs l&&dF (zV t) l cs)))))
theorem kT (q:List Int) (t:List y6) (l:List yb) (cs:List ya) (vs:List yj) (z:Int) (ht:Jl t) (hl:l.length≤1048576) (hc:cs.length≤1048576) (hv:vs.length≤1048576) (T8: ∀ v∈vs,ByteArray.size v.1≤maxLen):yZ (q,t,l,cs,vs,z)=some (zc q t l cs vs z):=by
 unfold yZ iv zc nz;refine (zZ (step:=Wp _ _) (fun i=>(i,q,t,l,cs,vs,z)) (gV z) (some false) (some (ZX q t&&(kh l&&(ZJ cs&&(Yn z 1 61&&(qM vs l&&dF (zV t) l cs)))))) YR l (by omega) ?_ ?_).trans ?_
 ·intro again i h0 h1;have hw:Go.IntKind.wrap .i64 (i+1)=i+1:=zb (by omega) (by omega);unfold Wp gV nz;have hx:l.getD i.toNat YR=yT l i:=rfl;rw [hx];simp only [yl,ym,h0,h1,yo,hw]
 ·intro again i hi;unfold Wp nz;simp only [yl,ym,y9 hi,dD q t ht,qK l hl,bU cs hc,zK,Fy q t l cs vs z hl hv T8,ut q t l cs vs z ht hl hc,zzal0];cases ZX q t<;>cases kh l<;>cases ZJ cs<;>cases Yn z 1 61<;>cases qM vs l<;>rfl
 ·cases zk (gV z) l 0<;>cases ZX q t<;>cases kh l<;>cases ZJ cs<;>cases Yn z 1 61<;>rfl
theorem mh (q:List Int) (t:List y6) (l:List yb) (cs:List ya) (vs:List yj) (z:Int) (ht:Jl t) (hl:l.length≤1048576) (hc:cs.length≤1048576) (hv:vs.length≤1048576) (T8: ∀ v∈vs,ByteArray.size v.1≤maxLen):KU (q,t,l,cs,vs,z)=some (zc q t l cs vs z):=by
 unfold KU zc nz;simp only [Br q t ht,Bv l hl,up cs hc,Yq,zzal0];cases ZX q t
 ·rfl
 cases kh l
 ·rfl
 cases hcc:ZJ cs
 ·rfl
 cases Yn z 1 61
 ·rfl
 have hc24:cs.length=24:=by unfold ZJ at hcc;simp only [zzal10,vM] at hcc;omega
 simp only [yJ,yi,zzal0,jH];unfold iU;refine (zZ (step:=WC _ _) (fun i=>(l,(l.length:Int),i,q,t,l,cs,vs,z)) (gV z) (some false) (some (qM vs l&&dF (zV t) l cs)) YR l (by omega) ?_ ?_).trans ?_
 ·intro again i h0 h1;have hw:Go.IntKind.wrap .i64 (i+1)=i+1:=zb (by omega) (by omega);unfold WC gV nz;have hx:l.getD i.toNat YR=yT l i:=rfl;rw [hx];simp only [yl,ym,h0,h1,yo,hw]
 ·intro again i hi;unfold WC nz;simp only [yl,ym,y9 hi,Fz q t l cs vs z hl hv T8,uu q t l cs vs z ht hl hc24,zzal0];cases qM vs l<;>rfl
 ·cases zk (gV z) l 0<;>rfl
noncomputable def Nc (m0:Int) (s:List y8) (c:List yw) (u:Int) (q:List yf) (t:List y6) (l:List yb) (cs:List ya) (vs:List yj) (z a n m:Int):Bool:=
 cx s c u&&(((s.length:Int)==60)&&(zc q t l cs vs z&&(Yn n 1 50000&&(Yn m n (IntKind.i64.wrap (n+6))&&(Yn m 1 50000&&Yn a m0 50000)))))
structure Nd (s:List y8) (c:List yw) (q:List yf) (t:List y6) (l:List yb) (cs:List ya) (vs:List yj):Prop where
 D:dv s c
 P:small q t l cs vs
 T:Jl t
 N: ∀ v∈vs,ByteArray.size v.1≤maxLen
section
variable {s:List y8} {c:List yw} (u:Int) (b:Bool) {q:List yf} {t:List y6} {l:List yb} {cs:List ya} {vs:List yj} (z a n m:Int) (h:Nd s c q t l cs vs)
include h
theorem nH:wF (s,c,u,b,q,t,l,cs,vs,z,a,n,m)=some (cx s c u&&(((s.length:Int)==60)&&(zc q t l cs vs z&&(Yn n 1 50000&&(Yn m n (IntKind.i64.wrap (n+6))&&Yn m 1 50000))))):=by unfold wF nz;simp only [KZ s c u b h.D.1 h.D.2.1,kT q t l cs vs z h.T h.P.2.2.2.1 h.P.2.2.2.2.1 h.P.2.2.2.2.2 h.N,zK,zzal0];generalize cx s c u=d1;generalize (((List.length s:Nat):Int)==60)=d2;generalize zc q t l cs vs z=d3;generalize Yn n 1 50000=d4;generalize Yn m n (IntKind.i64.wrap (n+6))=d5;generalize Yn m 1 50000=d6;cases d1<;>cases d2<;>cases d3<;>cases d4<;>cases d5<;>cases d6<;>rfl
theorem BB:qv (s,c,u,b,q,t,l,cs,vs,z,a,n,m)=some (Nc 1 s c u q t l cs vs z a n m):=by unfold qv Nc nz;simp only [nH u b z a n m h,zK,zzal0];generalize cx s c u=d1;generalize (((List.length s:Nat):Int)==60)=d2;generalize zc q t l cs vs z=d3;generalize Yn n 1 50000=d4;generalize Yn m n (IntKind.i64.wrap (n+6))=d5;generalize Yn m 1 50000=d6;cases d1<;>cases d2<;>cases d3<;>cases d4<;>cases d5<;>cases d6<;>rfl
theorem l7:kI (s,c,u,b,q,t,l,cs,vs,z,a,n,m)=some (s,c,u,b,q,t,l,cs,vs,z,a,n,m):=by unfold kI nz;simp only [dw s c u b h.D,bR q t l cs vs z h.P,zzal0]
end
theorem mR {A:Type} (p:Int→A→Bool): ∀ (l:List A) (i:Int),zk p l i=false→ ∀ a∈l,∃ j,p j a=false
 |[],_,_,a,h=>by simp at h
 |b::l,i,h,a,ha=>by
  simp only [zk,WW] at h;rcases yR.1 ha with rfl|ha
  ·exact ⟨i,h.1⟩
  ·exact mR p l (i+1) h.2 a ha
theorem rz {s:List y7} (h:bS s=true):s.length≤60∧ ∀ k∈s,Yz k=true:=by unfold bS at h;simp only [zzal10,zzal45,ym] at h;refine ⟨by omega,fun k hk=> ?_⟩;obtain ⟨j,hj⟩:=mR _ s 0 h.1 k hk;simpa using hj
theorem mS {n:List yc} (h:Z2 n=true):n.length≤3∧ ∀ s∈n,bS s=true:=by unfold Z2 at h;simp only [zzal10,zzal45,ym] at h;refine ⟨by omega,fun s hs=> ?_⟩;obtain ⟨j,hj⟩:=mR _ n 0 h.1 s hs;unfold gU at hj;simp only [WW,eR] at hj;exact hj.1
theorem WU {q:List Int} {t:List y6} (h:ZX q t=true):q.length=t.length∧1≤t.length∧t.length≤20∧ ∀ n∈t,Z2 n=true:=by unfold ZX at h;simp only [zzal10,zzal45,ym,zi] at h;obtain ⟨h1,h2,_,h3,_⟩:=h;refine ⟨h2,by omega,by omega,fun n hn=> ?_⟩;obtain ⟨j,hj⟩:=mR _ t 0 h3 n hn;unfold eG at hj;simp only [WW,eR] at hj;have h4:=hj.2;unfold Bp at h4;simp only [zzal10] at h4;exact h4.1
def zL (c:List Int) (p:Int):Prop:=c.length≤1099511627776∧0≤p∧p≤c.length
def gives {A:Type} (o:Option (A×List Int×Int×Int)) (c:List Int) (Q:A→Prop):Prop:= ∃ v p s,o=some (v,c,p,s)∧zL c p∧Q v
theorem xE (c:List Int) (p s:Int) (h:zL c p):gives (jt (c,p,s)) c (fun v=>0≤v∧v<256):=by
 obtain ⟨h1,h2,h3⟩:=h;unfold jt nz;simp only [yl,ym,y1_];by_cases hp:p<(c.length:Int)
 ·rw [y0 hp,y0 h2,y0 hp];refine ⟨_,_,_,rfl,⟨h1,?_,?_⟩,by omega⟩
  ·rw [zb (by omega) (by omega)];omega
  ·rw [zb (by omega) (by omega)];omega
 ·rw [y9 hp];exact ⟨_,_,_,rfl,⟨h1,h2,h3⟩,by omega⟩
theorem yM (c:List Int) (p s n:Int) (h:zL c p):gives (yd (c,p,s,n)) c (fun v=>0≤v∧(0<n→v<n)):=by
 unfold yd nz;simp only [yl,ym];by_cases hn:n≤0
 ·rw [y0 hn];exact ⟨_,_,_,rfl,h,yP _,fun hh=>by omega⟩
 ·rw [y9 hn];obtain ⟨v1,p1,s1,e1,h1,q1⟩:=xE c p s h;obtain ⟨v2,p2,s2,e2,h2,q2⟩:=xE c p1 s1 h1;obtain ⟨v3,p3,s3,e3,h3,q3⟩:=xE c p2 s2 h2;rw [e1];simp only [zzal0];have mod: ∀ v:Int,0≤v→0≤Int.tmod v n∧(0<n→Int.tmod v n<n):=fun v hv=>by
   rw [Es hv];exact ⟨Int.emod_nonneg _ (by omega),fun hh=>Int.emod_lt_of_pos _ hh⟩
  by_cases h6:n≤256
  ·rw [y0 h6,y9 (by omega)];exact ⟨_,_,_,rfl,h1,mod _ q1.1⟩
  ·rw [y9 h6,e2];simp only [zzal0];rw [e3];simp only [zzal0];rw [y9 (by omega)];rw [zb (n:=v1*65536) (by omega) (by omega),zb (n:=v2*256) (by omega) (by omega),zb (n:=v1*65536+v2*256) (by omega) (by omega),zb (n:=v1*65536+v2*256+v3) (by omega) (by omega)];exact ⟨_,_,_,rfl,h3,mod _ (by omega)⟩
theorem Zn (c:List Int) (p s:Int) (L:List Int) (hL:0<L.length) (hL2:L.length≤1048576) (h:zL c p):gives (yE (c,p,s,L)) c (fun v=>v∈L):=by obtain ⟨v,p1,s1,e1,h1,q1⟩:=yM c p s (L.length:Int) h;have:=q1.2 (by omega);unfold yE nz;rw [e1];simp only [zzal0];rw [y0 q1.1,y0 this];exact ⟨_,_,_,rfl,h1,zz y5u L v q1.1 this⟩
theorem y4Q (c:List Int) (p s n:Int) (h:zL c p):gives (Zd (c,p,s,n)) c (fun _=>True):=by obtain ⟨v,p1,s1,e1,h1,q1⟩:=yM c p s n h;unfold Zd nz;rw [e1];exact ⟨_,_,_,rfl,h1,trivial⟩
theorem FA (c:List Int) (hc:c.length≤1099511627776): ∃ s,kX c=some (c,0,s):=by
 have key:=Yo (step:=Vx (fun x2:List Int×Int=>some (x2.1,(0:Int),x2.2))) (fun t:List Int×Int×Int=>c.length - t.2.2.toNat) (fun t=>t.1=c∧0≤t.2.2∧t.2.2≤c.length) (fun _ res=> ∃ s,res=some (c,0,s)) ?_ (c,(Go.IntKind.wrap .i64 ((941941:Int)+((List.length c:Nat):Int))),(0:Int)) ⟨rfl,yP _,by simp⟩ (by simp;omega)
 ·exact key
 ·rintro again ⟨c',s,i⟩ ⟨rfl,h0,h1⟩ hag;simp only at h0 h1;unfold Vx nz;simp only [yl,ym];by_cases hi:i<(c'.length:Int)
  ·rw [y0 hi];simp only [zzal0,ym];by_cases h4:i<4000
   ·rw [y0 h4,y0 h0,y0 hi];have hw:Go.IntKind.wrap .i64 (i+1)=i+1:=zb (by omega) (by omega);rw [hw];exact hag _ ⟨rfl,by simp only;omega,by simp only;omega⟩ (by simp only;omega)
   ·rw [y9 h4];exact ⟨_,rfl⟩
  ·rw [y9 hi];exact ⟨_,rfl⟩
theorem nI (l:List Int) (i:Int):wP l i=wN l i:=rfl
theorem mT (l:List Int) (i:Int) (h0:0≤i) (h:i<l.length):l.drop i.toNat=wN l i::l.drop (i.toNat+1):=by
 have hn:i.toNat<l.length:=by omega
 rw [List.drop_eq_getElem_cons hn];unfold wN;rw [Zr,WX hn];rfl
theorem yjD (x:Int):Int.fdiv x (2 ^ (min (Int.toNat (1:Int)) (Go.IntKind.bits .i64)))=x / 2:=by show Int.fdiv x 2=x / 2;rw [Et _ (by omega)]
theorem BC {R:Type} (l:List Int) (i:Int) (k:List Int×Int×Int→Option R): ∀ x:Int,gJ k (l,x,i,0)=k (l,kg 8 x,i):=by
 intro x;unfold gJ;have key:=Ym (step:=cu k) (fun t:List Int×Int×Int×Int=>8 - t.2.2.2.toNat) (fun t=>t.1=l∧t.2.2.1=i∧0≤t.2.2.2∧t.2.2.2≤8) (fun t=>k (l,kg (8 - t.2.2.2.toNat) t.2.1,i)) ?_ (l,x,i,0) ⟨rfl,rfl,by simp,by simp⟩ (by simp)
 ·simpa using key
 ·rintro again ⟨l',x,i',j⟩ ⟨rfl,rfl,h0,h1⟩ hag;simp only at h0 h1 ⊢;unfold cu nz;simp only [yl,ym,bi,and1,yjD];by_cases hj:j<8
  ·have hw:Go.IntKind.wrap .i64 (j+1)=j+1:=zb (by omega) (by omega);obtain ⟨d,hd⟩: ∃ d,8 - j.toNat=d+1:=⟨7 - j.toNat,by omega⟩
   have hd':8 - (j+1).toNat=d:=by omega
   rw [y0 hj,hw,hd,kg];unfold sH;by_cases hx:x % 2=1
   ·rw [y0 hx,y0 hx];have:=hag (l',bits .xor .i64 (x / 2) 2197175160,i',j+1) ⟨rfl,rfl,by simp only;omega,by simp only;omega⟩ (by simp only;omega);rw [this];simp only [hd']
   ·rw [y9 hx,y9 hx];have:=hag (l',x / 2,i',j+1) ⟨rfl,rfl,by simp only;omega,by simp only;omega⟩ (by simp only;omega);rw [this];simp only [hd']
  ·have:j=8:=by omega
   subst this;simp [kg]
theorem bV {l:List Int} (h:isBytes l) (i:Int):Go.IntKind.wrap .i64 (wN l i)=wN l i:=by have:=YQ h i;exact zb (by omega) (by omega)
theorem Vf (l:List Int) (hb:isBytes l) (hl:l.length≤1099511627776):W8 l=some (crc l):=by
 unfold W8 pG nz;rw [Ym (fun t:List Int×Int×Int=>t.1.length - t.2.2.toNat) (fun t=>t.1=l∧0≤t.2.2∧t.2.2≤l.length) (fun t=>some (bits .xor .i64 ((l.drop t.2.2.toNat).foldl gM t.2.1) 4294967295)) ?_ (l,4294967295,0) ⟨rfl,by simp,by simp⟩ (by simp;omega)]
 ·rfl
 ·rintro again ⟨l',x,i⟩ ⟨rfl,h0,h1⟩ hag;simp only at h0 h1 hl hb ⊢;unfold gL nz;simp only [yl,ym,nI,bV hb];by_cases hi:i<(l'.length:Int)
  ·have hw:Go.IntKind.wrap .i64 (i+1)=i+1:=zb (by omega) (by omega);rw [y0 hi,y0 h0,y0 hi,BC];simp only [hw];rw [hag (l',kg 8 (bits .xor .i64 x (wN l' i)),i+1) ⟨rfl,by simp only;omega,by simp only;omega⟩ (by simp only;omega),mT l' i h0 hi];have e1:(i+1).toNat=i.toNat+1:=by omega
   simp only [e1,Zl,gM]
  ·rw [y9 hi,aE (by omega)];rfl
theorem yjE (x:Int) (h:0≤x):Int.tdiv x 2=x / 2:=Int.tdiv_eq_ediv_of_nonneg h
theorem ybk (x:Int) (h:0≤x):Int.tmod x 2=x % 2:=Es h
theorem BD {R:Type} (l:List Int) (n i:Int) (k:Int×List Int×Int×Int→Option R): ∀ x:Int,0≤x→x<4294967296→gF k (x,l,n,i,0)=k (kg 8 x,l,n,i):=by
 intro x hx0 hx1;unfold gF;have key:=Ym (step:=cr k) (fun t:Int×List Int×Int×Int×Int=>8 - t.2.2.2.2.toNat) (fun t=>t.2.1=l∧t.2.2.1=n∧t.2.2.2.1=i∧0≤t.2.2.2.2∧t.2.2.2.2≤8∧0≤t.1∧t.1<4294967296) (fun t=>k (kg (8 - t.2.2.2.2.toNat) t.1,l,n,i)) ?_ (x,l,n,i,0) ⟨rfl,rfl,rfl,by simp,by simp,hx0,hx1⟩ (by simp)
 ·simpa using key
 ·rintro again ⟨x,l',n',i',j⟩ ⟨rfl,rfl,rfl,h0,h1,hx0,hx1⟩ hag;simp only at h0 h1 hx0 hx1 ⊢;unfold cr nz;simp only [yl,ym,bi,ybk x hx0,yjE x hx0,zb (n:=x / 2) (by omega) (by omega)];by_cases hj:j<8
  ·have hw:Go.IntKind.wrap .i64 (j+1)=j+1:=zb (by omega) (by omega);obtain ⟨d,hd⟩: ∃ d,8 - j.toNat=d+1:=⟨7 - j.toNat,by omega⟩
   have hd':8 - (j+1).toNat=d:=by omega
   have hr:=gN x hx0 hx1;rw [y0 hj,hw,hd,kg];unfold sH at hr ⊢;by_cases hx:x % 2=1
   ·rw [y0 hx] at hr ⊢;rw [y0 hx];have:=hag (bits .xor .i64 (x / 2) 2197175160,l',n',i',j+1) ⟨rfl,rfl,rfl,by simp only;omega,by simp only;omega,hr.1,hr.2⟩ (by simp only;omega);rw [this];simp only [hd']
   ·rw [y9 hx] at hr ⊢;rw [y9 hx];have:=hag (x / 2,l',n',i',j+1) ⟨rfl,rfl,rfl,by simp only;omega,by simp only;omega,hr.1,hr.2⟩ (by simp only;omega);rw [this];simp only [hd']
  ·have:j=8:=by omega
   subst this;simp [kg]
theorem eH (l:List Int) (hb:isBytes l) (hl:l.length≤1099511627776):Qe l=some (crc l):=by
 unfold Qe pE nz;rw [Ym (fun t:Int×List Int×Int×Int=>t.2.1.length - t.2.2.2.toNat) (fun t=>t.2.1=l∧t.2.2.1=l.length∧0≤t.2.2.2∧t.2.2.2≤l.length∧0≤t.1∧t.1<4294967296) (fun t=>some (bits .xor .i64 ((l.drop t.2.2.2.toNat).foldl gM t.1) 4294967295)) ?_ (4294967295,l,l.length,0) ⟨rfl,rfl,by simp,by simp,by simp,by simp⟩ (by simp;omega)]
 ·rfl
 ·rintro again ⟨x,l',n,i⟩ ⟨rfl,hn,h0,h1,hx0,hx1⟩ hag;simp only at hn h0 h1 hx0 hx1 hl hb ⊢;subst hn;unfold gH nz;simp only [yl,ym,nI,bV hb];by_cases hi:i<(l'.length:Int)
  ·have hw:Go.IntKind.wrap .i64 (i+1)=i+1:=zb (by omega) (by omega);have hbr:=YQ hb i;have hxr:=sG x (wN l' i) hx0 hx1 hbr.1 (by omega);have hsr:=Cx x (wN l' i) hx0 hx1 hbr.1 hbr.2;rw [y0 hi,y0 h0,y0 hi,BD _ _ _ _ _ hxr.1 hxr.2];simp only [hw];rw [hag (kg 8 (bits .xor .i64 x (wN l' i)),l',l'.length,i+1) ⟨rfl,rfl,by simp only;omega,by simp only;omega,hsr.1,hsr.2⟩ (by simp only;omega),mT l' i h0 hi];have e1:(i+1).toNat=i.toNat+1:=by omega
   simp only [e1,Zl,gM]
  ·rw [y9 hi,aE (by omega)];rfl
def w2 (l:List Int) (i:Int):Int:=wN l i*256+wN l (i+1)
def rA (l:List Int) (i:Int):Int×Int×Bool:=if 0≤i∧i+2≤l.length then (w2 l i,i+2,true) else (0,0,false)
theorem fT {l:List Int} (h:isBytes l) (i:Int):0≤w2 l i∧w2 l i≤65535:=by have h1:=YQ h i;have h2:=YQ h (i+1);unfold w2;omega
theorem y25 (a b:Int) (h0:0≤a) (h1:a<256) (hb0:0≤b) (hb1:b<256):bits .or .i64 (Go.IntKind.wrap .i64 (a*2 ^ (min (Int.toNat (8:Int)) (Go.IntKind.bits .i64)))) b=a*256+b:=by show bits .or .i64 (Go.IntKind.wrap .i64 (a*256)) b=a*256+b;rw [zb (by omega) (by omega)];exact xA 8 (by omega) a b h0 (by show a*256<_;omega) hb0 hb1
theorem gW (l:List Int) (i:Int) (hb:isBytes l) (hl:l.length≤1099511627776) (h0: -1099511627776≤i) (h1:i≤4398046511104):JK (l,i)=some (rA l i):=by
 unfold JK rA nz;simp only [zK,zzal0,yl,nI,bV hb];rw [zb (n:=(l.length:Int) - 2) (by omega) (by omega),zb (n:=i+1) (by omega) (by omega),zb (n:=i+2) (by omega) (by omega)];by_cases h:0≤i∧i+2≤l.length
 ·have hin:Yn i 0 ((l.length:Int) - 2)=true:=zi.2 ⟨h.1,by omega⟩;have r1:=YQ hb i;have r2:=YQ hb (i+1);rw [hin,y0 h,y9 (by simp),y0 h.1,y0 (by omega),y0 (by omega),y0 (by omega),y25 _ _ r1.1 r1.2 r2.1 r2.2];rfl
 ·have hin:Yn i 0 ((l.length:Int) - 2)=false:=by
   cases hc:Yn i 0 ((l.length:Int) - 2) with
   |false=>rfl
   |true=>have:=zi.1 hc;exact absurd ⟨this.1,by omega⟩ h
  rw [hin,y9 h];rfl
theorem rB (l:List Int) (i:Int) (hb:isBytes l) (hl:l.length≤1099511627776) (h0: -1099511627776≤i) (h1:i≤4398046511104):ay (l,i)=some (rA l i):=by
 unfold ay rA nz;simp only [zzal0,yl,nI,bV hb,ym];rw [zb (n:=(l.length:Int) - 2) (by omega) (by omega),zb (n:=i+1) (by omega) (by omega),zb (n:=i+2) (by omega) (by omega)];by_cases h:0≤i∧i+2≤l.length
 ·have r1:=YQ hb i;have r2:=YQ hb (i+1);rw [y0 h,y9 (by omega),zzal0,y9 (by simp;omega),y0 h.1,y0 (by omega),y0 (by omega),y0 (by omega),y25 _ _ r1.1 r1.2 r2.1 r2.2];rfl
 ·rw [y9 h];by_cases h2:i<0
  ·rw [y0 h2,zzal0,y0 rfl]
  ·rw [y9 h2,zzal0,y0 (by simp;omega)]
theorem BE (l:List Int) (i:Int) (bad:Bool) (hb:isBytes l) (hl:l.length≤1099511627776) (h0:0≤i) (h1:i≤2199023255552):yq (l,i,bad)=some (if bad=false∧i<l.length then (wN l i,l,i+1,false) else (0,l,i,true)):=by
 unfold yq nz;simp only [yl,ym,nI,bV hb];rw [zb (n:=i+1) (by omega) (by omega),show i+1 - 1=i by omega,zb (n:=i) (by omega) (by omega)];cases bad with
 |true=>simp
 |false=>
  by_cases h:i<l.length
  ·simp [h,h0,show ¬ i<0 by omega,show ¬ (l.length:Int)≤i by omega,bV hb]
  ·simp [h,show ¬ i<0 by omega,show (l.length:Int)≤i by omega]
theorem gX (l:List Int) (i:Int) (bad:Bool) (hb:isBytes l) (hl:l.length≤1099511627776) (h0:0≤i) (h1:i≤2199023255552):yz (l,i,bad)=some (if bad=false∧i+2≤l.length then (w2 l i,l,i+2,false) else (0,l,i,true)):=by
 unfold yz nz;simp only [rB l i hb hl (by omega) (by omega),zzal0,yl];cases bad with
 |true=>simp
 |false=>
  by_cases h:i+2≤l.length
  ·have eW:rA l i=(w2 l i,i+2,true):=y0 ⟨h0,h⟩;rw [eW];simp [h]
  ·have eW:rA l i=(0,0,false):=y9 (by rintro ⟨_,h2⟩;exact h h2);rw [eW];simp [h]
theorem xF (l:List Int) (i:Int) (bad:Bool):j_ (l,i,bad)=some (!bad&&(i==(l.length:Int)),l,i,bad):=by unfold j_ nz;cases bad<;>simp
theorem y26 (l:List Int) (a:Int) (hb:isBytes l) (hl:l.length≤1099511627776) (h0:0≤a) (h1:a≤2199023255552):yz (l,a,true)=some (0,l,a,true):=by rw [gX l a true hb hl h0 h1];simp
theorem y4R (l:List Int) (a:Int) (hb:isBytes l) (hl:l.length≤1099511627776) (h0:0≤a) (h1:a≤2199023255552):yq (l,a,true)=some (0,l,a,true):=by rw [BE l a true hb hl h0 h1];simp
def li (l:List Int) (i:Int):Int:=wN l i*16777216+wN l (i+1)*65536+wN l (i+2)*256+wN l (i+3)
theorem sh8:(2:Int) ^ (min (Int.toNat (8:Int)) (Go.IntKind.bits .i64))=256:=by decide
theorem yed:(2:Int) ^ (min (Int.toNat (16:Int)) (Go.IntKind.bits .i64))=65536:=by decide
theorem yjF:(2:Int) ^ (min (Int.toNat (24:Int)) (Go.IntKind.bits .i64))=16777216:=by decide
theorem or8 (a b:Int) (h0:0≤a) (h1:a<4294967296) (hb0:0≤b) (hb1:b<256):bits .or .i64 (a*256) b=a*256+b:=xA 8 (by omega) a b h0 (by show a*256<_;omega) hb0 hb1
theorem yjG (a b:Int) (h0:0≤a) (h1:a<4294967296) (hb0:0≤b) (hb1:b<65536):bits .or .i64 (a*65536) b=a*65536+b:=xA 16 (by omega) a b h0 (by show a*65536<_;omega) hb0 hb1
theorem ymN (a b:Int) (h0:0≤a) (h1:a<4294967296) (hb0:0≤b) (hb1:b<16777216):bits .or .i64 (a*16777216) b=a*16777216+b:=xA 24 (by omega) a b h0 (by show a*16777216<_;omega) hb0 hb1
theorem DY (l:List Int) (i:Int) (hb:isBytes l) (hl:l.length≤1099511627776) (h0:0≤i) (h1:i+4≤l.length):KV (l,i)=some (li l i):=by
 have r0:=YQ hb i;have r1:=YQ hb (i+1);have r2:=YQ hb (i+2);have r3:=YQ hb (i+3);unfold KV li nz;simp only [nI,bV hb];rw [zb (n:=i+1) (by omega) (by omega),zb (n:=i+2) (by omega) (by omega),zb (n:=i+3) (by omega) (by omega),y0 h0,y0 (by omega),y0 (by omega),y0 (by omega),y0 (by omega),y0 (by omega),y0 (by omega),y0 (by omega),sh8,yed,yjF,
  zb (n:=wN l i*16777216) (by omega) (by omega),zb (n:=wN l (i+1)*65536) (by omega) (by omega),zb (n:=wN l (i+2)*256) (by omega) (by omega)]
 rw [ymN _ _ r0.1 (by omega) (by omega) (by omega),show wN l i*16777216+wN l (i+1)*65536=(wN l i*256+wN l (i+1))*65536 by omega,yjG _ _ (by omega) (by omega) (by omega) (by omega),
  show (wN l i*256+wN l (i+1))*65536+wN l (i+2)*256=((wN l i*256+wN l (i+1))*256+wN l (i+2))*256 by omega,or8 _ _ (by omega) (by omega) r3.1 r3.2]
theorem y4S (l:List Int) (i:Int) (hb:isBytes l) (hl:l.length≤1099511627776) (h0:0≤i) (h1:i+4≤l.length):zY (l,i,false)=some (li l i,l,i+4,false):=by
 have ra:=fT hb i;have rb:=fT hb (i+2);unfold zY nz;rw [gX l i false hb hl h0 (by omega),y0 ⟨rfl,by omega⟩];simp only [zzal0];rw [gX l (i+2) false hb hl (by omega) (by omega),y0 ⟨rfl,by omega⟩];simp only [zzal0];rw [yed,zb (n:=w2 l i*65536) (by omega) (by omega),yjG _ _ ra.1 (by omega) rb.1 (by omega),show i+2+2=i+4 by omega];have:w2 l i*65536+w2 l (i+2)=li l i:=by unfold w2 li;rw [show i+2+1=i+3 by omega];omega
 rw [this]
theorem wrap_u8 (n:Int):Go.IntKind.wrap .u8 n=n % 256:=by simp [Go.IntKind.wrap,Go.IntKind.bits,Go.IntKind.signed]
theorem CE (n:Int):0≤Go.IntKind.wrap .u8 n∧Go.IntKind.wrap .u8 n<256:=by rw [wrap_u8];omega
theorem ymO (x:List Int) (hx:x.length≤1099511627776):zL x 0:=⟨hx,yP _,by omega⟩
theorem yjH (x:List Int) (i:Int) (hb:isBytes x) (hx:x.length≤1048576) (h0:0≤i) (h1:i≤1000): ∃ v,mJ (x,i)=some v∧0≤v:=by
 unfold mJ nz;simp only [yl,ym];by_cases h:i<(x.length:Int)
 ·rw [y0 h,y0 h0,y0 h,nI,bV hb];exact ⟨_,rfl,(YQ hb i).1⟩
 ·rw [y9 h,zb (n:=i*31) (by omega) (by omega),zb (n:=(x.length:Int)*7) (by omega) (by omega),zb (n:=i*31+(x.length:Int)*7) (by omega) (by omega),Es (by omega)];exact ⟨_,rfl,by omega⟩
theorem y27 (x:Int):Int.fdiv x (2 ^ (min (Int.toNat (8:Int)) (Go.IntKind.bits .i64)))=x / 256:=by rw [sh8,Et _ (by omega)]
theorem yee (x:Int):Int.fdiv x (2 ^ (min (Int.toNat (16:Int)) (Go.IntKind.bits .i64)))=x / 65536:=by rw [yed,Et _ (by omega)]
theorem yef (x:Int):Int.fdiv x (2 ^ (min (Int.toNat (24:Int)) (Go.IntKind.bits .i64)))=x / 16777216:=by rw [yjF,Et _ (by omega)]
def two (x:Int):List Int:=[x / 256 % 256,x % 256]
def four (x:Int):List Int:=[x / 16777216 % 256,x / 65536 % 256,x / 256 % 256,x % 256]
theorem Z3 (l:List Int) (x:Int) (hl:l.length≤1048576):YC (l,x)=some (l++two x):=by unfold YC nz;simp only [wrap_u8,y27,jj,yr,yp];rw [y0 (by omega),y0 (by omega)];rfl
theorem Rj (a b:List Int) (h:a.length+b.length≤2097152):zE [a,b]=some (a++b):=by
 have hF:FUEL=(FUEL - 3)+1+1+1:=by have:=Zz;omega
 unfold zE bG nz;rw [hF];have s0: ∀ again,Y1 (fun x1=>some x1) again ([a,b],(2:Int),(0:Int),([]:List yn))=again ([a,b],2,1,a):=by intro again;unfold Y1 nz;have hw:Go.IntKind.wrap .i64 (0+1)=1:=zb (by omega) (by omega);have hr:YK [a,b] 0=a:=rfl;simp only [hw,hr,yr,yp,jj];rw [y0 (by omega),y0 (by omega),y0 (by omega)];rfl
 have s1: ∀ again,Y1 (fun x1=>some x1) again ([a,b],(2:Int),(1:Int),a)=again ([a,b],2,2,a++b):=by intro again;unfold Y1 nz;have hw:Go.IntKind.wrap .i64 (1+1)=2:=zb (by omega) (by omega);have hr:YK [a,b] 1=b:=rfl;simp only [hw,hr,yp,yr];rw [y0 (by omega),y0 (by omega),y0 (by omega)];rfl
 have s2: ∀ again,Y1 (fun x1=>some x1) again ([a,b],(2:Int),(2:Int),a++b)=some (a++b):=by intro again;unfold Y1 nz;rfl
 rw [show ((List.length [a,b]:Nat):Int)=2 from rfl,iter,s0,iter,s1,iter,s2]
theorem Ku (l:List Int) (x:Int) (hl:l.length≤1048576):Jv (l,x)=some (l++two x):=by unfold Jv nz;simp only [wrap_u8,y27,y1_];rw [Rj l _ (by simp only [yp,yr];omega)];simp only [zzal0,two];rw [show x / 256 % 256 % 256=x / 256 % 256 by omega,show x % 256 % 256=x % 256 by omega]
theorem oh (l:List Int) (x:Int) (hl:l.length≤1048576):wB (l,x)=some (l++four x):=by unfold wB nz;simp only [wrap_u8,y27,yee,yef,jj,yr,yp];rw [y0 (by omega),y0 (by omega)];rfl
theorem ol (x:Int):isBytes (four x):=by intro y hy;simp only [four,yR,aJ,Vr] at hy;rcases hy with h|h|h|h<;>subst h<;>omega
theorem yS {l m:List Int} (h:isBytes l) (h':isBytes m):isBytes (l++m):=fun x hx=>(zB.1 hx).elim (h x) (h' x)
theorem gY (s:ByteArray):(Z_ s).length=s.size:=by unfold Z_;rw [wV,jG];rfl
theorem FB (s:ByteArray):isBytes (Z_ s):=by intro x hx;unfold Z_ at hx;obtain ⟨b,_,rfl⟩:=eU.1 hx;have:=b.toNat_lt;omega
theorem CF (l:List Int) (hb:isBytes l):Z_ (textOf l)=l:=by
 unfold textOf Z_;simp only [List.map_map]
 conv=>rhs;rw [← List.map_id l]
 refine Eu fun x hx=> ?_;have:=hb x hx;simp only [Function.comp,id];rw [UInt8.toNat_ofNat'];omega
theorem two_bytes (x:Int):isBytes (two x):=by intro y hy;simp only [two,yR,aJ,Vr] at hy;rcases hy with h|h<;>subst h<;>omega
def tx (s:ByteArray):List Int:=two (s.size:Int)++Z_ s
theorem oo (s:ByteArray):(tx s).length=2+s.size:=by unfold tx;rw [yU,gY];rfl
theorem BF (s:ByteArray):isBytes (tx s):=yS (two_bytes _) (FB s)
theorem bW (l:List Int) (s:ByteArray) (hl:l.length≤1000000) (hs:s.size≤60):wC (l,s)=some (l++tx s):=by
 unfold wC nz;simp only;rw [show decide (((ByteArray.size s:Nat):Int)>(60:Int))=false from yX (by omega),yi,Z3 l _ (by omega)];simp only [zzal0];have h2:(l++two (s.size:Int)).length=l.length+2:=by rw [yU];rfl
 rw [y0 (by rw [show List.length (Z_ s)=s.size from gY s];omega),jF];rfl
theorem uv (l:List Int) (s:ByteArray) (hl:l.length≤1000000) (hs:s.size≤60):VW (l,s)=some (l++tx s):=by
 unfold VW nz;simp only;rw [show decide (((ByteArray.size s:Nat):Int)>(60:Int))=false from yX (by omega),yi,Ku l _ (by omega)];simp only [zzal0];have h2:(l++two (s.size:Int)).length=l.length+2:=by rw [yU];rfl
 rw [y0 (by omega),Rj _ _ (by rw [show List.length (Z_ s)=s.size from gY s];omega)];simp only [zzal0,jF];rfl
def Zo {A:Type} (f:Int→A→List Int):List A→Int→List Int
 |[],_=>[]
 |a::l,i=>f i a++Zo f l (i+1)
theorem va {A:Type} (f:Int→A→List Int) (m:Nat): ∀ (l:List A) (i:Int),(∀ a∈l,∀ j,(f j a).length≤m)→(Zo f l i).length≤l.length*m
 |[],_,_=>by simp [Zo]
 |a::l,i,h=>by have h1:=va f m l (i+1) fun b hb=>h b (by simp [hb]);have h2:=h a (by simp) i;rw [Zo,yU,yp,Vq];omega
theorem WI {T A R:Type} {step:(T→Option R)→T→Option R} (da:A) (f:Int→A→List Int) (l:List A) (St:Int→List Int→T) (k:List Int→Option R) (M:Nat) (hl:l.length≤1099511627776)
  (h: ∀ again i o,0≤i→i<((List.length l:Nat):Int)→List.length o+(f i (l.getD i.toNat da)).length≤M→l.getD i.toNat da∈l→step again (St i o)=again (St (i+1) (o++f i (l.getD i.toNat da))))
  (hd: ∀ again i o,¬ i<((List.length l:Nat):Int)→step again (St i o)=k o)
  (o:List Int) (hM:List.length o+(Zo f l 0).length≤M):iter step FUEL (St 0 o)=k (o++Zo f l 0):=by
 have key: ∀ (m:Nat) (i:Int) (o:List Int),0≤i→i≤l.length→l.length - i.toNat<m→List.length o+(Zo f (l.drop i.toNat) i).length≤M→iter step m (St i o)=k (o++Zo f (l.drop i.toNat) i):=by
  intro m;induction m with
  |zero=>intro i o _ _ h;omega
  |succ m ih=>
   intro i o i0 i1 hm hb;rw [iter];by_cases hi:i<((List.length l:Nat):Int)
   ·rw [ZW da l i i0 hi] at hb ⊢;rw [Zo,yU] at hb;rw [h _ i o i0 hi (by omega) (zz da l i i0 hi),ih (i+1) _ (by omega) (by omega) (by omega) (by rw [yU];omega),Zo,jF]
   ·rw [hd _ i o hi,aE (by omega)];simp [Zo]
 have:=key FUEL 0 o (yP _) (by omega) (by have:=Zz;omega) hM;exact this
def b8 (x:Int):Int:=Go.IntKind.wrap .u8 x
def bit (b:Bool):Int:=if b=true then 1 else 0
def Qs (_:Int) (a:yb):List Int:=[b8 a.1,b8 a.2]
def vZ (_:Int) (v:yj):List Int:=tx v.1++[b8 v.2.1,b8 v.2.2.1,bit v.2.2.2]
def Wd (_:Int) (c:ya):List Int:=two c.1++([bit c.2.1]++two c.2.2)
def k7 (_:Int) (k:y7):List Int:=[b8 k.1,b8 k.2.1,b8 k.2.2.1,b8 k.2.2.2.1]++two k.2.2.2.2
def ZK (_:Int) (l:yc):List Int:=[b8 ((List.length l:Nat):Int)]++Zo k7 l 0
def ZY (q:List Int) (i:Int) (n:y6):List Int:=two (q.getD i.toNat 0)++([b8 ((List.length n:Nat):Int)]++Zo ZK n 0)
def eI (q:List Int) (t:List y6) (l:List yb) (cs:List ya) (vs:List yj) (z:Int):List Int:=
 ((((((two z++[b8 ((List.length l:Nat):Int)])++Zo Qs l 0)++[b8 ((List.length vs:Nat):Int)])++Zo vZ vs 0)++Zo Wd cs 0)++[b8 ((List.length t:Nat):Int)])++Zo (ZY q) t 0
structure ybl (q:List Int) (t:List y6) (l:List yb) (cs:List ya) (vs:List yj):Prop where
 ql:q.length=t.length
 tl:t.length≤20
 ll:l.length≤16
 cl:cs.length=24
 vl:vs.length≤6
 nm: ∀ v∈vs,ByteArray.size v.1≤6
 nl: ∀ n∈t,List.length n≤3
 sl: ∀ n∈t,∀ s∈(show List yc from n),List.length s≤60∧ ∀ k∈(show List y7 from s),Yz k=true
theorem Rk {q:List Int} {t:List y6} {l:List yb} {cs:List ya} {vs:List yj} {z:Int} (h:zc q t l cs vs z=true):ybl q t l cs vs:=by unfold zc at h;simp only [zzal10] at h;obtain ⟨h1,h2,h3,_,_,h4,_⟩:=h;obtain ⟨t1,t2,t3,t4⟩:=WU h1;unfold kh at h2;unfold ZJ at h3;unfold qM at h4;simp only [zzal10,zzal45,ym,vM] at h2 h3 h4;refine ⟨t1,t3,by omega,by omega,by omega,fun v hv=> ?_,fun n hn=>(mS (t4 n hn)).1,fun n hn s hs=>rz ((mS (t4 n hn)).2 s hs)⟩;obtain ⟨j,hj⟩:=mR _ vs 0 h4.1 v hv;unfold Fx at hj;simp only [WW,eR] at hj;have hn:=hj.1;unfold jq at hn;simp only [zzal10,zi] at hn;omega
theorem BG (i:Int) (k:y7):(k7 i k).length=6:=rfl
theorem Nf (i:Int) (s:yc) (h:List.length s≤60):(ZK i s).length≤361:=by have h1:=va k7 6 s 0 fun a _ j=>jk _;unfold ZK;rw [yU];simp only [yp,yr];omega
theorem BH (n:y6) (h1:List.length n≤3) (h2: ∀ s∈(show List yc from n),List.length s≤60):(Zo ZK n 0).length≤1083:=by have h3:=va ZK 361 n 0 fun s hs j=>Nf j s (h2 s hs);have h4:List.length n*361≤3*361:=wS _ h1;omega
theorem Lo (q:List Int) (i:Int) (n:y6) (h1:List.length n≤3) (h2: ∀ s∈(show List yc from n),List.length s≤60):(ZY q i n).length≤1086:=by have h3:=BH n h1 h2;unfold ZY;rw [yU,yU];simp only [two,yp,yr];omega
section
variable {q:List Int} {t:List y6} {l:List yb} {cs:List ya} {vs:List yj} (z:Int) (h:ybl q t l cs vs)
include h
theorem BI:(Zo Qs l 0).length≤32:=by have h1:=va Qs 2 l 0 fun a _ j=>jk _;have:=h.ll;omega
theorem BJ:(Zo vZ vs 0).length≤66:=by
 have h1:=va vZ 11 vs 0 fun v hv j=>by have:=h.nm v hv;unfold vZ;rw [yU,oo];simp only [yp,yr];omega
 have:=h.vl;omega
theorem t5:(Zo Wd cs 0).length≤120:=by have h1:=va Wd 5 cs 0 fun c _ j=>jk _;have:=h.cl;omega
theorem DZ:(Zo (ZY q) t 0).length≤21720:=by have h1:=va (ZY q) 1086 t 0 fun n hn j=>Lo q j n (h.nl n hn) fun s hs=>(h.sl n hn s hs).1;have:=h.tl;omega
end
theorem y28 (b:Bool):(bif b then some (1:Int) else some (0:Int))=some (bit b):=by cases b<;>rfl
theorem ua (b:Bool):QZ b=some (bit b):=y28 b
theorem ub (b:Bool):eD b=some (bit b):=y28 b
theorem BK (o:List Int) (k:y7) (hk:Yz k=true) (ho:o.length≤1000000):Q_ (o,k.1,k.2.1,k.2.2.1,k.2.2.2.1,k.2.2.2.2)=some (o++k7 0 k):=by unfold Q_ nz;simp only [af,zzal0];rw [y0 (by simp only [yr];omega),show Yz (k.1,k.2.1,k.2.2.1,k.2.2.2.1,k.2.2.2.2)=true from hk];simp only [yJ,yi,jj,yp,yr];rw [y0 (by omega),Z3 _ _ (by simp only [yU,yp,yr];omega)];simp only [zzal0,jF];rfl
theorem BL (o:List Int) (k:y7) (hk:Yz k=true) (ho:o.length≤1000000):QX (o,k.1,k.2.1,k.2.2.1,k.2.2.2.1,k.2.2.2.2)=some (o++k7 0 k):=by unfold QX nz;simp only [ag,WT o (by omega),zzal0];rw [show Yz (k.1,k.2.1,k.2.2.1,k.2.2.2.1,k.2.2.2.2)=true from hk];simp only [yJ,yi,yp,yr];rw [y0 (by omega),Ku _ _ (by simp only [yU,yp,yr];omega)];simp only [zzal0,jF];rfl
theorem Lq (o:List Int) (s:yc) (hs:List.length s≤60) (hk: ∀ k∈(show List y7 from s),Yz k=true) (ho:o.length≤900000):aa (o,s)=some (o++ZK 0 s):=by
 have hlen:=va k7 6 s 0 fun a _ j=>jk _;unfold aa iW nz;simp only [yp,yr];rw [y0 (by omega)];refine (WI (step:=WF _) zx k7 s (fun i o=>(s,i,o)) (fun o=>some o) 1000000 (by omega) ?_ ?_ _ (by rw [yU];simp only [yp,yr];omega)).trans ?_
 ·intro again i o h0 h1 hb hm;have hw:Go.IntKind.wrap .i64 (i+1)=i+1:=zb (by omega) (by omega);have he:=BK o (yy s i) (hk _ hm) (by omega);unfold WF nz;simp only [yl,ym,h0,h1,yo,hw,he,zzal0];rfl
 ·intro again i o hi;unfold WF nz;simp only [yl,ym,y9 hi]
 ·rw [jF];rfl
abbrev PT:Type:=List yf×List y6×List yb×List ya×List yj×Int×List yn
section
variable {R:Type} (q:List yf) (t:List y6) (l:List yb) (cs:List ya) (vs:List yj) (z:Int) (o:List yn)
theorem y29 (k0:PT→Option R) (hl:l.length≤1000) (hM:List.length o+(Zo Qs l 0).length≤900000):Ql k0 (0,q,t,l,cs,vs,z,o)=k0 (q,t,l,cs,vs,z,o++Zo Qs l 0):=by
 unfold Ql;refine WI (step:=wD k0) YR Qs l (fun i o=>(i,q,t,l,cs,vs,z,o)) (fun o=>k0 (q,t,l,cs,vs,z,o)) 900000 (by omega) ?_ ?_ o hM
 ·intro again i o h0 h1 hb hm;have hw:Go.IntKind.wrap .i64 (i+1)=i+1:=zb (by omega) (by omega);unfold wD nz;simp only [yl,ym,h0,h1,yo,hw];rw [y0 (by simp only [yp,yr];omega)];rfl
 ·intro again i o hi;unfold wD nz;simp only [yl,ym,y9 hi]
theorem y2a (k0:PT→Option R) (hl:l.length≤1000) (hM:List.length o+(Zo Qs l 0).length≤900000):Qa k0 (l,((List.length l:Nat):Int),0,q,t,l,cs,vs,z,o)=k0 (q,t,l,cs,vs,z,o++Zo Qs l 0):=by
 unfold Qa;refine WI (step:=wy k0) YR Qs l (fun i o=>(l,((List.length l:Nat):Int),i,q,t,l,cs,vs,z,o)) (fun o=>k0 (q,t,l,cs,vs,z,o)) 900000 (by omega) ?_ ?_ o hM
 ·intro again i o h0 h1 hb hm;have hw:Go.IntKind.wrap .i64 (i+1)=i+1:=zb (by omega) (by omega);unfold wy nz;simp only [yl,ym,h0,h1,yo,hw];rw [y0 (by simp only [yp,yr];omega)];rfl
 ·intro again i o hi;unfold wy nz;simp only [yl,ym,y9 hi]
theorem D_ (o:List Int) (v:yj) (i:Int):(o++tx v.1)++[b8 v.2.1,b8 v.2.2.1,bit v.2.2.2]=o++vZ i v:=jF ..
theorem T9 (k0:PT→Option R) (hl:vs.length≤1000) (hv: ∀ v∈vs,ByteArray.size v.1≤6) (hM:List.length o+(Zo vZ vs 0).length≤900000):qm k0 (0,q,t,l,cs,vs,z,o)=k0 (q,t,l,cs,vs,z,o++Zo vZ vs 0):=by
 unfold qm;refine WI (step:=JE k0) w9 vZ vs (fun i o=>(i,q,t,l,cs,vs,z,o)) (fun o=>k0 (q,t,l,cs,vs,z,o)) 900000 (by omega) ?_ ?_ o hM
 ·intro again i o h0 h1 hb hm;have hw:Go.IntKind.wrap .i64 (i+1)=i+1:=zb (by omega) (by omega);have hs:=hv _ hm;have he:=bW o (yC vs i).1 (by omega) (YI hs (by decide));have ht:List.length (o++tx (yC vs i).1)≤900100:=by
   rw [yU,oo];have:ByteArray.size (yC vs i).1≤6:=hs;omega
  unfold JE nz;simp only [yl,ym,h0,h1,yo,hw,he,ua,zzal0];rw [y0 (by simp only [yp,yr];omega)];exact congrArg (fun o'=>again (i+1,q,t,l,cs,vs,z,o')) (D_ o (yC vs i) i)
 ·intro again i o hi;unfold JE nz;simp only [yl,ym,y9 hi]
theorem Ta (k0:PT→Option R) (hl:vs.length≤1000) (hv: ∀ v∈vs,ByteArray.size v.1≤6) (hM:List.length o+(Zo vZ vs 0).length≤900000):VY k0 (vs,((List.length vs:Nat):Int),0,q,t,l,cs,vs,z,o)=k0 (q,t,l,cs,vs,z,o++Zo vZ vs 0):=by
 unfold VY;refine WI (step:=Jw k0) w9 vZ vs (fun i o=>(vs,((List.length vs:Nat):Int),i,q,t,l,cs,vs,z,o)) (fun o=>k0 (q,t,l,cs,vs,z,o)) 900000 (by omega) ?_ ?_ o hM
 ·intro again i o h0 h1 hb hm;have hw:Go.IntKind.wrap .i64 (i+1)=i+1:=zb (by omega) (by omega);have hs:=hv _ hm;have he:=uv o (yC vs i).1 (by omega) (YI hs (by decide));have ht:List.length (o++tx (yC vs i).1)≤900100:=by
   rw [yU,oo];have:ByteArray.size (yC vs i).1≤6:=hs;omega
  unfold Jw nz;simp only [yl,ym,h0,h1,yo,hw,he,ub,zzal0];rw [y0 (by simp only [yp,yr];omega)];exact congrArg (fun o'=>again (vs,((List.length vs:Nat):Int),i+1,q,t,l,cs,vs,z,o')) (D_ o (yC vs i) i)
 ·intro again i o hi;unfold Jw nz;simp only [yl,ym,y9 hi]
theorem BM (o:List Int) (c:ya) (i:Int):((o++two c.1)++[bit c.2.1])++two c.2.2=o++Wd i c:=by unfold Wd;simp only [jF]
theorem Tb (k0:PT→Option R) (hl:cs.length≤1000) (hM:List.length o+(Zo Wd cs 0).length≤900000):qo k0 (0,q,t,l,cs,vs,z,o)=k0 (q,t,l,cs,vs,z,o++Zo Wd cs 0):=by
 unfold qo;refine WI (step:=JF k0) jo Wd cs (fun i o=>(i,q,t,l,cs,vs,z,o)) (fun o=>k0 (q,t,l,cs,vs,z,o)) 900000 (by omega) ?_ ?_ o hM
 ·intro again i o h0 h1 hb hm;have hw:Go.IntKind.wrap .i64 (i+1)=i+1:=zb (by omega) (by omega);have he:=Z3 o (yD cs i).1 (by omega);have hlen:List.length (o++two (yD cs i).1)=List.length o+2:=by rw [yU];rfl
  have CT:List.length ((o++two (yD cs i).1)++[bit (yD cs i).2.1])=List.length o+3:=by rw [yU,hlen];rfl
  have he2:=Z3 ((o++two (yD cs i).1)++[bit (yD cs i).2.1]) (yD cs i).2.2 (by omega);unfold JF nz;simp only [yl,ym,h0,h1,yo,hw,he,ua,zzal0];rw [y0 (by simp only [yp,yr];omega),he2];exact congrArg (fun o'=>again (i+1,q,t,l,cs,vs,z,o')) (BM o (yD cs i) i)
 ·intro again i o hi;unfold JF nz;simp only [yl,ym,y9 hi]
theorem Tc (k0:PT→Option R) (hl:cs.length≤1000) (hM:List.length o+(Zo Wd cs 0).length≤900000):V_ k0 (cs,((List.length cs:Nat):Int),0,q,t,l,cs,vs,z,o)=k0 (q,t,l,cs,vs,z,o++Zo Wd cs 0):=by
 unfold V_;refine WI (step:=Jx k0) jo Wd cs (fun i o=>(cs,((List.length cs:Nat):Int),i,q,t,l,cs,vs,z,o)) (fun o=>k0 (q,t,l,cs,vs,z,o)) 900000 (by omega) ?_ ?_ o hM
 ·intro again i o h0 h1 hb hm;have hw:Go.IntKind.wrap .i64 (i+1)=i+1:=zb (by omega) (by omega);have he:=Ku o (yD cs i).1 (by omega);have hlen:List.length (o++two (yD cs i).1)=List.length o+2:=by rw [yU];rfl
  have CT:List.length ((o++two (yD cs i).1)++[bit (yD cs i).2.1])=List.length o+3:=by rw [yU,hlen];rfl
  have he2:=Ku ((o++two (yD cs i).1)++[bit (yD cs i).2.1]) (yD cs i).2.2 (by omega);unfold Jx nz;simp only [yl,ym,h0,h1,yo,hw,he,ub,zzal0];rw [y0 (by simp only [yp,yr];omega),he2];exact congrArg (fun o'=>again (cs,((List.length cs:Nat):Int),i+1,q,t,l,cs,vs,z,o')) (BM o (yD cs i) i)
 ·intro again i o hi;unfold Jx nz;simp only [yl,ym,y9 hi]
theorem Td (k0:Int×PT→Option R) (i:Int) (i0:0≤i) (i1:i<((List.length t:Nat):Int)) (hl:List.length (yt t i)≤1000) (hs: ∀ s∈(show List yc from yt t i),List.length s≤60∧ ∀ k∈(show List y7 from s),Yz k=true) (hM:List.length o+(Zo ZK (yt t i) 0).length≤900000):
  qq k0 (i,0,q,t,l,cs,vs,z,o)=k0 (i,q,t,l,cs,vs,z,o++Zo ZK (yt t i) 0):=by
 unfold qq;refine WI (step:=JG k0) zN ZK (yt t i) (fun j o=>(i,j,q,t,l,cs,vs,z,o)) (fun o=>k0 (i,q,t,l,cs,vs,z,o)) 900000 (by omega) ?_ ?_ o hM
 ·intro again j o h0 h1 hb hm;have hw:Go.IntKind.wrap .i64 (j+1)=j+1:=zb (by omega) (by omega);have he:=Lq o (yK (yt t i) j) (hs _ hm).1 (hs _ hm).2 (by omega);unfold JG nz;simp only [yl,ym,i0,i1,h0,h1,yo,hw,he,zzal0];rfl
 ·intro again j o hj;unfold JG nz;simp only [yl,ym,i0,i1,yo,y9 hj]
theorem Te (k0:List y6×Int×Int×List yc×Int×Int×PT→Option R) (m i m2 j:Int) (nd:List yc) (t':List y6) (s:List y7) (hs:s.length≤60) (hk: ∀ k∈s,Yz k=true) (hM:List.length o+(Zo k7 s 0).length≤1000000):
  qb k0 (t',m,i,nd,m2,j,s,((List.length s:Nat):Int),0,q,t,l,cs,vs,z,o)=k0 (t',m,i,nd,m2,j,q,t,l,cs,vs,z,o++Zo k7 s 0):=by
 unfold qb;refine WI (step:=Jy k0) zx k7 s (fun x o=>(t',m,i,nd,m2,j,s,((List.length s:Nat):Int),x,q,t,l,cs,vs,z,o)) (fun o=>k0 (t',m,i,nd,m2,j,q,t,l,cs,vs,z,o)) 1000000 (by omega) ?_ ?_ o hM
 ·intro again x o h0 h1 hb hm;have hw:Go.IntKind.wrap .i64 (x+1)=x+1:=zb (by omega) (by omega);have he:=BL o (yy s x) (hk _ hm) (by omega);unfold Jy nz;simp only [yl,ym,h0,h1,yo,hw,he,zzal0];rfl
 ·intro again x o hx;unfold Jy nz;simp only [yl,ym,y9 hx]
theorem Tf (k0:List y6×Int×Int×PT→Option R) (m i:Int) (nd:List yc) (t':List y6) (hl:nd.length≤1000) (hs: ∀ s∈nd,List.length s≤60∧ ∀ k∈(show List y7 from s),Yz k=true) (hM:List.length o+(Zo ZK nd 0).length≤900000):
  qd k0 (t',m,i,nd,((List.length nd:Nat):Int),0,q,t,l,cs,vs,z,o)=k0 (t',m,i,q,t,l,cs,vs,z,o++Zo ZK nd 0):=by
 unfold qd;refine WI (step:=Jz k0) zN ZK nd (fun j o=>(t',m,i,nd,((List.length nd:Nat):Int),j,q,t,l,cs,vs,z,o)) (fun o=>k0 (t',m,i,q,t,l,cs,vs,z,o)) 900000 (by omega) ?_ ?_ o hM
 ·intro again j o h0 h1 hb hm;have hw:Go.IntKind.wrap .i64 (j+1)=j+1:=zb (by omega) (by omega);have hsj:=hs _ hm;have hlen:=va k7 6 (yK nd j) 0 fun a _ j=>jk _;have h60:List.length (yK nd j)≤60:=hsj.1;unfold Jz nz;simp only [yl,ym,h0,h1,yo,hw];rw [y0 (by simp only [yp,yr];omega),Te q t l cs vs z _ _ m i _ j nd t' (yK nd j) h60 hsj.2 (by rw [yU];simp only [yp,yr];omega)];simp only [hw,jF];rfl
 ·intro again j o hj;unfold Jz nz;simp only [yl,ym,y9 hj]
theorem BN (o:List Int) (i:Int) (n:y6):((o++two (q.getD i.toNat 0))++[b8 ((List.length n:Nat):Int)])++Zo ZK n 0=o++ZY q i n:=by unfold ZY;simp only [jF]
theorem Tg (k0:List yn→Option R) (hl:t.length≤1000) (hq:q.length=t.length) (hn: ∀ n∈t,List.length n≤3) (hs: ∀ n∈t,∀ s∈(show List yc from n),List.length s≤60∧ ∀ k∈(show List y7 from s),Yz k=true) (hM:List.length o+(Zo (ZY q) t 0).length≤800000):
  qt k0 (0,q,t,l,cs,vs,z,o)=k0 (o++Zo (ZY q) t 0):=by
 unfold qt;refine WI (step:=JH k0) y_ (ZY q) t (fun i o=>(i,q,t,l,cs,vs,z,o)) k0 800000 (by omega) ?_ ?_ o hM
 ·intro again i o h0 h1 hb hm;have hw:Go.IntKind.wrap .i64 (i+1)=i+1:=zb (by omega) (by omega);have he:=Z3 o (Y4 q i) (by omega);have hlen:List.length (o++two (Y4 q i))=List.length o+2:=by rw [yU];rfl
  have hq1:i<((List.length q:Nat):Int):=by omega
  have h3:List.length (yt t i)≤3:=hn _ hm;have yjI:=BH (yt t i) h3 fun s hs'=>(hs _ hm s hs').1;unfold JH nz;simp only [yl,ym,h0,h1,hq1,yo,hw,he,zzal0];rw [y0 (by simp only [yp,yr];omega),Td q t l cs vs z _ _ i h0 h1 (by omega) (hs _ hm) (by rw [yU,hlen];simp only [yp,yr];omega)];simp only [hw];exact congrArg (fun o'=>again (i+1,q,t,l,cs,vs,z,o')) (BN q o i (yt t i))
 ·intro again i o hi;unfold JH nz;simp only [yl,ym,y9 hi]
theorem Th (k0:List yn→Option R) (hl:t.length≤1000) (hq:q.length=t.length) (hn: ∀ n∈t,List.length n≤3) (hs: ∀ n∈t,∀ s∈(show List yc from n),List.length s≤60∧ ∀ k∈(show List y7 from s),Yz k=true) (hM:List.length o+(Zo (ZY q) t 0).length≤800000):
  qf k0 (t,((List.length t:Nat):Int),0,q,t,l,cs,vs,z,o)=k0 (o++Zo (ZY q) t 0):=by
 unfold qf;refine WI (step:=JA k0) y_ (ZY q) t (fun i o=>(t,((List.length t:Nat):Int),i,q,t,l,cs,vs,z,o)) k0 800000 (by omega) ?_ ?_ o hM
 ·intro again i o h0 h1 hb hm;have hw:Go.IntKind.wrap .i64 (i+1)=i+1:=zb (by omega) (by omega);have he:=Ku o (Y4 q i) (by omega);have hlen:List.length (o++two (Y4 q i))=List.length o+2:=by rw [yU];rfl
  have hq1:i<((List.length q:Nat):Int):=by omega
  have h3:List.length (yt t i)≤3:=hn _ hm;have yjI:=BH (yt t i) h3 fun s hs'=>(hs _ hm s hs').1;unfold JA nz;simp only [yl,ym,h0,h1,hq1,yo,hw,he,zzal0];rw [y0 (by simp only [yp,yr];omega),Tf q t l cs vs z _ _ _ i (yt t i) t (by omega) (hs _ hm) (by rw [yU,hlen];simp only [yp,yr];omega)];simp only [hw];exact congrArg (fun o'=>again (t,((List.length t:Nat):Int),i+1,q,t,l,cs,vs,z,o')) (BN q o i (yt t i))
 ·intro again i o hi;unfold JA nz;simp only [yl,ym,y9 hi]
end
noncomputable def ZL (q:List Int) (t:List y6) (l:List yb) (cs:List ya) (vs:List yj) (z:Int):List Int:=if zc q t l cs vs z=true then eI q t l cs vs z else []
theorem uw (q:List Int) (t:List y6) (l:List yb) (cs:List ya) (vs:List yj) (z:Int) (ht:Jl t) (hl:l.length≤1048576) (hc:cs.length≤1048576) (hv:vs.length≤1048576) (T8: ∀ v∈vs,ByteArray.size v.1≤maxLen):qu (q,t,l,cs,vs,z)=some (ZL q t l cs vs z):=by
 unfold qu ZL nz;simp only [kT q t l cs vs z ht hl hc hv T8,zzal0];cases hp:zc q t l cs vs z with
 |false=>rfl
 |true=>have h:=Rk hp;have h1:=BI h;have h2:=BJ h;have h3:=t5 h;have h4:=DZ h;simp only [yJ,yi,yo,Z3 [] z (by decide),zzal0,jj];rw [y0 (by simp only [two,yp,yr];omega),y29 q t l cs vs z _ _ (by have:=h.ll;omega) (by simp only [two,yU,yp,yr];omega)];simp only [];rw [y0 (by simp only [two,yU,yp,yr];omega),T9 q t l cs vs z _ _ (by have:=h.vl;omega) h.nm (by simp only [two,yU,yp,yr];omega)];simp only [];rw [Tb q t l cs vs z _ _ (by have:=h.cl;omega) (by simp only [two,yU,yp,yr];omega)];simp only [];rw [y0 (by simp only [two,yU,yp,yr];omega),Tg q t l cs vs z _ _ (by have:=h.tl;omega) h.ql h.nl h.sl (by simp only [two,yU,yp,yr];omega)];rfl
theorem lb (q:List Int) (t:List y6) (l:List yb) (cs:List ya) (vs:List yj) (z:Int) (ht:Jl t) (hl:l.length≤1048576) (hc:cs.length≤1048576) (hv:vs.length≤1048576) (T8: ∀ v∈vs,ByteArray.size v.1≤maxLen):wz (q,t,l,cs,vs,z)=some (ZL q t l cs vs z):=by
 unfold wz ZL nz;simp only [mh q t l cs vs z ht hl hc hv T8,zzal0];cases hp:zc q t l cs vs z with
 |false=>rfl
 |true=>have h:=Rk hp;have h1:=BI h;have h2:=BJ h;have h3:=t5 h;have h4:=DZ h;simp only [yJ,yi,yo,Ku [] z (by decide),zzal0,jj];rw [y0 (by simp only [two,yp,yr];omega),y2a q t l cs vs z _ _ (by have:=h.ll;omega) (by simp only [two,yU,yp,yr];omega)];simp only [];rw [y0 (by simp only [two,yU,yp,yr];omega),Ta q t l cs vs z _ _ (by have:=h.vl;omega) h.nm (by simp only [two,yU,yp,yr];omega)];simp only [];rw [Tc q t l cs vs z _ _ (by have:=h.cl;omega) (by simp only [two,yU,yp,yr];omega)];simp only [];rw [y0 (by simp only [two,yU,yp,yr];omega),Th q t l cs vs z _ _ (by have:=h.tl;omega) h.ql h.nl h.sl (by simp only [two,yU,yp,yr];omega)];rfl
def mi (a b c d e:Int):Bool:=Yn a 1 60000&&Yn b 0 1&&Yn c 0 1680&&Yn d 0 4294967295&&Yn e 1 60000
theorem ld (a b c d e:Int):kH (a,b,c,d,e)=some (mi a b c d e):=by unfold kH mi nz;simp only [zK,zzal0,yl];cases Yn a 1 60000<;>cases Yn b 0 1<;>cases Yn c 0 1680<;>cases Yn d 0 4294967295<;>cases Yn e 1 60000<;>rfl
theorem ux (a b c d e:Int):qz (a,b,c,d,e)=some (mi a b c d e):=by unfold qz mi nz;simp only [Yq,zzal0,yl];cases Yn a 1 60000<;>cases Yn b 0 1<;>cases Yn c 0 1680<;>cases Yn d 0 4294967295<;>cases Yn e 1 60000<;>rfl
theorem mj (l:List Int) (a:Int) (b:Bool) (hb:isBytes l) (hl:l.length≤1099511627776) (h0:0≤a) (h1:a≤1099511627776): ∃ v a' b',yz (l,a,b)=some (v,l,a',b')∧0≤a'∧a'≤a+2∧(b'=false→b=false∧a'=a+2):=by
 rw [gX l a b hb hl h0 (by omega)];by_cases h:b=false∧a+2≤l.length
 ·rw [y0 h];exact ⟨_,_,_,rfl,by omega,by omega,fun _=>⟨h.1,rfl⟩⟩
 ·rw [y9 h];exact ⟨_,_,_,rfl,by omega,by omega,by simp⟩
theorem y4T (l:List Int) (a:Int) (b:Bool) (hb:isBytes l) (hl:l.length≤1099511627776) (h0:0≤a) (h1:a≤1099511627776): ∃ v a' b',yq (l,a,b)=some (v,l,a',b')∧0≤a'∧a'≤a+1∧(b'=false→b=false∧a'=a+1):=by
 rw [BE l a b hb hl h0 (by omega)];by_cases h:b=false∧a<l.length
 ·rw [y0 h];exact ⟨_,_,_,rfl,by omega,by omega,fun _=>⟨h.1,rfl⟩⟩
 ·rw [y9 h];exact ⟨_,_,_,rfl,by omega,by omega,by simp⟩
theorem Lr (l:List Int) (a:Int) (b:Bool) (hb:isBytes l) (hl:l.length≤1099511627776) (h0:0≤a) (h1:a≤1000000000000): ∃ v a' b',zY (l,a,b)=some (v,l,a',b')∧0≤a'∧a'≤a+4∧(b'=false→b=false∧a'=a+4):=by obtain ⟨v1,a1,b1,e1,p1,q1,r1⟩:=mj l a b hb hl h0 (by omega);obtain ⟨v2,a2,b2,e2,p2,q2,r2⟩:=mj l a1 b1 hb hl p1 (by omega);unfold zY nz;rw [e1];simp only [zzal0];rw [e2];simp only [zzal0];refine ⟨_,_,_,rfl,p2,by omega,fun h=> ?_⟩;have h2:=r2 h;have h1:=r1 h2.1;exact ⟨h1.1,by omega⟩
def CG (l:List Int):Prop:=l.length=15∧li l 11=crc (l.take 11)∧mi (w2 l 0) (wN l 2) (w2 l 3) (li l 5) (w2 l 9)=true
noncomputable instance (l:List Int):Decidable (CG l):=Classical.propDecidable _
noncomputable def CH (l:List Int):Int×Int×Int×Int×Int×Bool:=if CG l then (w2 l 0,wN l 2,w2 l 3,li l 5,w2 l 9,true) else (0,0,0,0,0,false)
theorem t6 (l:List Int) (hb:isBytes l) (hl:l.length≤1073741824):Jg l=some (CH l):=by
 have hl':l.length≤1099511627776:=by omega
 unfold Jg nz;simp only [yl];by_cases h:l.length=15
 ·have hne:(((l.length:Nat):Int) !=(15:Int))=false:=by simp [h]
  have p1:(11:Int)≤(l.length:Int):=by omega
  have p2:(2:Int)<(l.length:Int):=by omega
  have hbt:=Wb hb 11;have hlt:(l.take 11).length≤1099511627776:=by simp;omega
  have e11:Int.toNat 11=11:=rfl;have gw: ∀ i:Int,0≤i→i+2≤15→JK (l,i)=some (w2 l i,i+2,true):=by intro i h0 h1;rw [gW l i hb hl' (by omega) (by omega)];unfold rA;rw [y0 ⟨h0,by omega⟩]
  rw [hne,DY l 11 hb hl' (by omega) (by omega)];simp only [J6,zP,zzal0,yP,yo,p1,p2,show (0:Int)≤11 by decide,show (0:Int)≤2 by decide,e11,Int.toNat_zero,List.drop_zero,Vf _ hbt hlt];rw [gw 0 (by omega) (by omega),gw 3 (by omega) (by omega),gw 9 (by omega) (by omega),DY l 5 hb hl' (by omega) (by omega)];simp only [zzal0,nI,bV hb,ld];unfold CH;by_cases hc:li l 11=crc (l.take 11)
  ·cases hs:mi (w2 l 0) (wN l 2) (w2 l 3) (li l 5) (w2 l 9) with
   |true=>
    have hC:CG l:=⟨h,hc,hs⟩
    rw [y0 hC,hc];simp
   |false=>
    have hC: ¬ CG l:=fun hh=>by rw [hh.2.2] at hs;exact absurd hs (by simp)
    rw [y9 hC];simp
  ·have hC: ¬ CG l:=fun hh=>hc hh.2.1;have hcb:(li l 11 !=crc (l.take 11))=true:=by simpa using hc
   rw [y9 hC,hcb];simp
 ·have hne:(((l.length:Nat):Int) !=(15:Int))=true:=by
   simp;omega
  have hC: ¬ CG l:=fun hh=>h hh.1;unfold CH;rw [hne,y9 hC];rfl
theorem t7 (l:List Int) (hb:isBytes l) (hl:l.length≤1073741824):jh l=some (CH l):=by
 have hl':l.length≤1099511627776:=by omega
 by_cases h:l.length=15
 ·have gw: ∀ i:Int,0≤i→i+2≤15→yz (l,i,false)=some (w2 l i,l,i+2,false):=by
   intro i h0 h1;rw [gX l i false hb hl' h0 (by omega),y0 ⟨rfl,by omega⟩]
  have g1:yq (l,2,false)=some (wN l 2,l,3,false):=by rw [BE l 2 false hb hl' (by omega) (by omega),y0 ⟨rfl,by omega⟩];rfl
  have g4: ∀ i:Int,0≤i→i+4≤15→zY (l,i,false)=some (li l i,l,i+4,false):=fun i h0 h1=>y4S l i hb hl' h0 (by omega);have s1:yz (l,0,false)=some (w2 l 0,l,2,false):=gw 0 (by omega) (by omega);have s3:yz (l,3,false)=some (w2 l 3,l,5,false):=gw 3 (by omega) (by omega);have s4:zY (l,5,false)=some (li l 5,l,9,false):=g4 5 (by omega) (by omega);have s5:yz (l,9,false)=some (w2 l 9,l,11,false):=gw 9 (by omega) (by omega);have s6:zY (l,11,false)=some (li l 11,l,15,false):=g4 11 (by omega) (by omega);have p1:(11:Int)≤(l.length:Int):=by omega
  have hbt:=Wb hb 11;have hlt:(l.take 11).length≤1099511627776:=by simp;omega
  have e11:Int.toNat 11=11:=rfl;have hd:((15:Int)==(l.length:Int))=true:=by simp [h]
  unfold jh nz;rw [s1];simp only [zzal0];rw [g1];simp only [zzal0];rw [s3];simp only [zzal0];rw [s4];simp only [zzal0];rw [s5];simp only [zzal0];rw [s6];simp only [zzal0,xF,ux,yl,hd,Yd,jH,yJ,J6,zP,yP,yo,p1,show (0:Int)≤11 by decide,e11,Int.toNat_zero,List.drop_zero,eH _ hbt hlt];unfold CH;cases hs:mi (w2 l 0) (wN l 2) (w2 l 3) (li l 5) (w2 l 9) with
  |true=>
   by_cases hc:li l 11=crc (l.take 11)
   ·have hC:CG l:=⟨h,hc,hs⟩
    rw [y0 hC,hc];simp
   ·have hC: ¬ CG l:=fun hh=>hc hh.2.1;have hcb:(li l 11 !=crc (l.take 11))=true:=by simpa using hc
    rw [y9 hC,hcb];simp
  |false=>
   have hC: ¬ CG l:=fun hh=>by rw [hh.2.2] at hs;exact absurd hs (by simp)
   rw [y9 hC];simp
 ·have hC: ¬ CG l:=fun hh=>h hh.1;obtain ⟨v1,a1,b1,e1,p1,q1,r1⟩:=mj l 0 false hb hl' (by omega) (by omega);obtain ⟨v2,a2,b2,e2,p2,q2,r2⟩:=y4T l a1 b1 hb hl' p1 (by omega);obtain ⟨v3,a3,b3,e3,p3,q3,r3⟩:=mj l a2 b2 hb hl' p2 (by omega);obtain ⟨v4,a4,b4,e4,p4,q4,r4⟩:=Lr l a3 b3 hb hl' p3 (by omega);obtain ⟨v5,a5,b5,e5,p5,q5,r5⟩:=mj l a4 b4 hb hl' p4 (by omega);obtain ⟨v6,a6,b6,e6,p6,q6,r6⟩:=Lr l a5 b5 hb hl' p5 (by omega);have hd:(!b6&&(a6==(l.length:Int)))=false:=by
   cases hb6:b6 with
   |true=>rfl
   |false=>
    have h6:=r6 hb6;have h5:=r5 h6.1;have h4:=r4 h5.1;have h3:=r3 h4.1;have h2:=r2 h3.1;have h1:=r1 h2.1;have:a6≠(l.length:Int):=by omega
    simpa using this
  unfold jh CH nz;rw [e1,y9 hC];simp only [zzal0];rw [e2];simp only [zzal0];rw [e3];simp only [zzal0];rw [e4];simp only [zzal0];rw [e5];simp only [zzal0];rw [e6];simp only [zzal0,xF,hd];rfl
def uc (a b c d e:Int):List Int:=[a / 256 % 256,a % 256,b % 256,c / 256 % 256,c % 256,d / 16777216 % 256,d / 65536 % 256,d / 256 % 256,d % 256,e / 256 % 256,e % 256]
def enc (a b c d e:Int):List Int:=uc a b c d e++four (crc (uc a b c d e))
theorem ml (a b c d e:Int):isBytes (uc a b c d e):=by intro x hx;simp only [uc,yR,aJ,Vr] at hx;rcases hx with h|h|h|h|h|h|h|h|h|h|h<;>subst h<;>omega
theorem fU (a b c d e:Int):WE (a,b,c,d,e)=some (if mi a b c d e=true then enc a b c d e else []):=by
 unfold WE nz;simp only [ld,zzal0];cases mi a b c d e with
 |false=>rfl
 |true=>simp only [yJ,yi,yo,wrap_u8];rw [Z3 [] a (by simp)];simp only [zzal0,jj];rw [y0 (by simp [two]),Z3 _ c (by simp [two])];simp only [zzal0];rw [oh _ d (by simp [two])];simp only [zzal0];rw [Z3 _ e (by simp [two,four])];simp only [zzal0];rw [show two a++[b % 256]++two c++four d++two e=uc a b c d e from rfl,Vf _ (ml a b c d e) (by simp [uc])];simp only [zzal0];rw [oh _ _ (by simp [uc])];rfl
theorem E0: ∀ (s:List y7) (i:Int),(Zo k7 s i).length=6*s.length
 |[],_=>rfl
 |a::s,i=>by rw [Zo,yU,E0 s (i+1),BG,yp];omega
theorem Ls: ∀ (n:List yc) (s:Int),0≤s→s+60*n.length≤1000→(∀ a∈n,List.length a≤60)→ ∃ k:Nat,n.foldl bT s=s+k∧ ∀ i,(Zo ZK n i).length=n.length+6*k
 |[],s,_,_,_=>⟨0,by simp,fun _=>rfl⟩
 |a::n,s,h0,hb,ha=>by
  have h1:=ha a (by simp);rw [yp] at hb;have hw:bT s a=s+(List.length a:Int):=zb (by omega) (by omega);obtain ⟨k,e1,e2⟩:=Ls n (s+(List.length a:Int)) (by omega) (by omega) fun b hm=>ha b (by simp [hm]);refine ⟨List.length a+k,?_,fun i=> ?_⟩
  ·rw [Zl,hw,e1];omega
  ·have h6:=E0 a 0;rw [Zo,yU,e2,ZK,yU,yp];simp only [yp,yr];omega
theorem y2b (q:List Int) (i:Int) (n:y6) (h:Z2 n=true):(ZY q i n).length≤54:=by obtain ⟨h1,h2⟩:=mS h;unfold Z2 at h;simp only [zzal10,ym] at h;obtain ⟨k,e1,e2⟩:=Ls n 0 (yP _) (by omega) fun a ha=>(rz (h2 a ha)).1;have h3:=h.2.2;unfold ZY;rw [yU,yU,e2];simp only [two,yp,yr];omega
theorem Lt {q:List Int} {t:List y6} {l:List yb} {cs:List ya} {vs:List yj} {z:Int} (h:zc q t l cs vs z=true):(eI q t l cs vs z).length≤1680:=by have hF:=Rk h;unfold zc at h;simp only [zzal10] at h;obtain ⟨t1,t2,t3,t4⟩:=WU h.1;have h1:=BI hF;have h2:=BJ hF;have h3:=t5 hF;have h4:=va (ZY q) 54 t 0 fun n hn j=>y2b q j n (t4 n hn);unfold eI;simp only [yU,two,yp,yr];omega
theorem cB {a:Int} {l:List Int} (h:0≤a∧a<256) (hl:isBytes l):isBytes (a::l):=fun x hx=>(yR.1 hx).elim (fun e=>e ▸ h) (hl x)
theorem gZ:isBytes []:=fun x hx=>by cases hx
theorem oq (x:Int):0≤b8 x∧b8 x<256:=by unfold b8;rw [wrap_u8];omega
theorem y2c (b:Bool):0≤bit b∧bit b<256:=by cases b<;>decide
theorem v_ {A:Type} (f:Int→A→List Int) (h: ∀ i a,isBytes (f i a)): ∀ (l:List A) (i:Int),isBytes (Zo f l i)
 |[],_=>gZ
 |a::l,i=>yS (h i a) (v_ f h l (i+1))
theorem CI (q:List Int) (t:List y6) (l:List yb) (cs:List ya) (vs:List yj) (z:Int):isBytes (eI q t l cs vs z):=by have b1:=fun x=>cB (oq x) gZ;have bk: ∀ i a,isBytes (k7 i a):=fun i a=>yS (cB (oq _) (cB (oq _) (cB (oq _) (b1 _)))) (two_bytes _);have bs: ∀ i a,isBytes (ZK i a):=fun i a=>yS (b1 _) (v_ k7 bk a 0);have bn: ∀ i a,isBytes (ZY q i a):=fun i a=>yS (two_bytes _) (yS (b1 _) (v_ ZK bs a 0));have ba: ∀ i a,isBytes (Qs i a):=fun i a=>cB (oq _) (b1 _);have bv: ∀ i a,isBytes (vZ i a):=fun i a=>yS (BF _) (cB (oq _) (cB (oq _) (cB (y2c _) gZ)));have bc: ∀ i a,isBytes (Wd i a):=fun i a=>yS (two_bytes _) (yS (cB (y2c _) gZ) (two_bytes _));unfold eI;exact yS (yS (yS (yS (yS (yS (yS (two_bytes _) (b1 _)) (v_ Qs ba l 0)) (b1 _)) (v_ vZ bv vs 0)) (v_ Wd bc cs 0)) (b1 _)) (v_ (ZY q) bn t 0)
section
variable (q:List yf) (t:List y6) (l:List yb) (cs:List ya) (vs:List yj) (nx gen bs sq:Int)
theorem g_ (s:List y8) (c:List yw) (z:Int) (b:Bool) (n:Int) (p:List Int) (h:Kt s c z):zH (s,c,z,b,q,t,l,cs,vs,nx,gen,bs,sq,n,p)=some (qU q t l cs vs nx gen bs sq (s,Fp s (c,z,b) n p)):=by
 obtain ⟨h1,h2,h3,h4,h5,h6,h7⟩:=h;have hw:Go.IntKind.wrap .i64 ((s.length:Int) - 1)=(s.length:Int) - 1:=zb (by omega) (by omega);have hw2:Go.IntKind.wrap .i64 (z - 1)=z - 1:=zb (by omega) (by omega);unfold zH Fp nz;simp only [hw,zK,zzal0];cases b with
 |true=>rfl
 |false=>
  rw [y9 (by simp)];cases hin:Yn n 0 ((s.length:Int) - 1) with
  |false=>rfl
  |true=>
   rw [y9 (by simp)];by_cases a1:(p.length:Int)>80
   ·rw [y0 a1,yG a1];rfl
   ·rw [y9 a1,yX a1];by_cases a2:(c.length:Int)≥60
    ·rw [y0 a2,yG a2];rfl
    ·rw [y9 a2,yX a2];unfold JI nz;simp only [yJ,yi,zzal0,hw2];by_cases a3:z=0
     ·subst a3;rfl
     ·rw [y9 a3,show (z==0)=false from by simpa using a3,yi];have g1:(List.length ([]:List yn)+p.length)*1<140737488355328:=by
       simp only [yr];omega
      have g2:(c.length+List.length ([(n,([]:List yn)++p)]:List yw))*32<140737488355328:=by simp only [yp,yr];omega
      by_cases a4:z>0
      ·rw [y0 a4,yG a4];simp only [yg,zzal0,yJ,yi];rw [y0 g1,y0 g2];rfl
      ·rw [y9 a4,yX a4];simp only [yi,zzal0,yJ];rw [y0 g1,y0 g2];rfl
end
theorem Ng (q:List yf) (t:List y6) (l:List yb) (cs:List ya) (vs:List yj) (nx gen bs sq:Int) (s:List y8) (c:List yw) (z:Int) (b:Bool) (side:Int) (p:List Int) (h:Kt s c z) (hside:Yn side 0 1=true) (hp:p.length≤1680):J4 (s,c,z,b,q,t,l,cs,vs,nx,gen,bs,sq,side,p)=some (qU q t l cs vs nx gen bs sq (s,qS s side p 24 0 (c,z,b))):=by
 unfold J4 Vd nz;refine Ym (step:=ZR _) (fun x:Int×List Int×Int×Int×Bool×List yf×List y6×List yb×List ya×List yj×Int×Int×Int×Int×List y8×List yw=>24 - x.2.2.1.toNat) (fun x=>Yn x.1 0 1=true∧x.2.1.length≤1680∧0≤x.2.2.1∧x.2.2.1≤24∧Kt x.2.2.2.2.2.2.2.2.2.2.2.2.2.2.1 x.2.2.2.2.2.2.2.2.2.2.2.2.2.2.2 x.2.2.2.1)
  (fun x=>some (qU x.2.2.2.2.2.1 x.2.2.2.2.2.2.1 x.2.2.2.2.2.2.2.1 x.2.2.2.2.2.2.2.2.1 x.2.2.2.2.2.2.2.2.2.1 x.2.2.2.2.2.2.2.2.2.2.1 x.2.2.2.2.2.2.2.2.2.2.2.1 x.2.2.2.2.2.2.2.2.2.2.2.2.1 x.2.2.2.2.2.2.2.2.2.2.2.2.2.1 (x.2.2.2.2.2.2.2.2.2.2.2.2.2.2.1,qS x.2.2.2.2.2.2.2.2.2.2.2.2.2.2.1 x.1 x.2.1 (24 - x.2.2.1.toNat) x.2.2.1 (x.2.2.2.2.2.2.2.2.2.2.2.2.2.2.2,x.2.2.2.1,x.2.2.2.2.1)))) ?_ (side,p,0,z,b,q,t,l,cs,vs,nx,gen,bs,sq,s,c) ⟨hside,hp,yP _,by simp,h⟩ (by simp)
 rintro again ⟨side,p,i,z,b,q,t,l,cs,vs,nx,gen,bs,sq,s,c⟩ ⟨hside,hp,i0,i1,hd⟩ hag;simp only at hside hp i0 i1 hd ⊢;have w1:Go.IntKind.wrap .i64 (i*70)=i*70:=zb (by omega) (by omega);have w2:Go.IntKind.wrap .i64 (i+1)=i+1:=zb (by omega) (by omega);have w3:Go.IntKind.wrap .i64 ((i+1)*70)=(i+1)*70:=zb (by omega) (by omega);unfold ZR nz;simp only [w1,w2,w3];by_cases hi:i*70<(p.length:Int)
 ·have e1:24 - i.toNat=(24 - (i+1).toNat)+1:=by omega
  rw [yG hi,yg,e1,qS,y0 hi,me side i hside i0 (by omega)];simp only [zzal0];have hcall: ∀ x,x=KB p i→Option.bind (zH (s,c,z,b,q,t,l,cs,vs,nx,gen,bs,sq,8+side*24+i,x)) (fun r=>again (side,p,i+1,r.2.2.1,r.2.2.2.1,r.2.2.2.2.1,r.2.2.2.2.2.1,r.2.2.2.2.2.2.1,r.2.2.2.2.2.2.2.1,r.2.2.2.2.2.2.2.2.1,r.2.2.2.2.2.2.2.2.2.1,r.2.2.2.2.2.2.2.2.2.2.1,r.2.2.2.2.2.2.2.2.2.2.2.1,r.2.2.2.2.2.2.2.2.2.2.2.2,r.1,r.2.1))=some (qU q t l cs vs nx gen bs sq (s,qS s side p (24 - (i+1).toNat) (i+1) (Fp s (c,z,b) (8+side*24+i) (KB p i)))):=by rintro x rfl;rw [g_ q t l cs vs nx gen bs sq s c z b _ _ hd];exact hag _ ⟨hside,hp,by simp only;omega,by simp only;omega,sX s c z b _ _ hd⟩ (by simp only;omega)
  by_cases he:(i+1)*70>(p.length:Int)
  ·rw [yG he,yg,y0 (by omega),y0 (by omega),y0 (by omega)];exact hcall _ (by rw [KB,fS,y0 he])
  ·rw [yX he,yi,y0 (by omega),y0 (by omega),y0 (by omega)];exact hcall _ (by rw [KB,fS,y9 he])
 ·rw [yX hi,yi,Bh _ _ _ _ _ _ hi];rfl
noncomputable def TY (s:List y8) (c:List yw) (u:Int) (b:Bool) (g:Int) (p:List Int):List y8×List yw×Int×Bool:=((N7 s c u b).1,qS (N7 s c u b).1 g p 24 0 (N7 s c u b).2)
noncomputable def Ti (d:List y8×List yw×Int×Bool):List y8×List yw×Int×Bool:=N7 d.1 d.2.1 d.2.2.1 d.2.2.2
noncomputable def ckW (d:List y8×List yw×Int×Bool) (n:Int) (p:List Int):List y8×List yw×Int×Bool:=(d.1,Fp d.1 d.2 n p)
noncomputable def CJ (g m:Int) (p:List Int):List Int:=if mi g (g % 2) (p.length:Int) (crc p) m=true then enc g (g % 2) (p.length:Int) (crc p) m else []
noncomputable def ckK (s:List y8) (c:List yw) (u:Int) (b:Bool) (g m:Int) (p:List Int):List y8×List yw×Int×Bool:=Ti (ckW (Ti (TY s c u b (g % 2) p)) (g % 2) (CJ g m p))
section
variable {s:List y8} {c:List yw} {u:Int} (b:Bool) (g:Int) (p:List Int) (h:Kt s c u)
include h
theorem y2d:Kt (TY s c u b g p).1 (TY s c u b g p).2.1 (TY s c u b g p).2.2.1:=xB _ g p 24 0 _ (Fq s c u b h)
end
theorem y2e (d:List y8×List yw×Int×Bool) (n:Int) (p:List Int) (h:Kt d.1 d.2.1 d.2.2.1):Kt (ckW d n p).1 (ckW d n p).2.1 (ckW d n p).2.2.1:=sX d.1 d.2.1 d.2.2.1 d.2.2.2 n p h
theorem Nh (d:List y8×List yw×Int×Bool) (h:Kt d.1 d.2.1 d.2.2.1):Kt (Ti d).1 (Ti d).2.1 (Ti d).2.2.1:=Fq _ _ _ _ h
theorem ud (q:List yf) (t:List y6) (l:List yb) (cs:List ya) (vs:List yj) (z:Int):(ZL q t l cs vs z).length≤1680∧isBytes (ZL q t l cs vs z):=by
 unfold ZL;split
 ·rename_i h;exact ⟨Lt h,CI q t l cs vs z⟩
 ·exact ⟨by simp,gZ⟩
section
variable {s:List y8} {c:List yw} (u:Int) (b:Bool) {q:List yf} {t:List y6} {l:List yb} {cs:List ya} {vs:List yj} (z a n m:Int) (h:Nd s c q t l cs vs)
include h
theorem FC (hd:Kt s c u) (hl:(ZL q t l cs vs z).length≤1680) (hB:isBytes (ZL q t l cs vs z)) (a0:0≤a) (a1:a≤49999):jg (s,c,u,b,q,t,l,cs,vs,z,a,n,m)=some (if (ckK s c u b (a+1) m (ZL q t l cs vs z)).2.2.2=false then qU q t l cs vs z (a+1) m m (ckK s c u b (a+1) m (ZL q t l cs vs z)) else qU q t l cs vs z a n m (ckK s c u b (a+1) m (ZL q t l cs vs z))):=by have w1:Go.IntKind.wrap .i64 (a+1)=a+1:=zb (by omega) (by omega);have hs:Yn ((a+1) % 2) 0 1=true:=zi.2 ⟨by omega,by omega⟩;unfold jg ckK nz;simp only [uw q t l cs vs z h.T h.P.2.2.2.1 h.P.2.2.2.2.1 h.P.2.2.2.2.2 h.N,zzal0,w1,ybk _ (show 0≤a+1 by omega)];generalize ZL q t l cs vs z=P at hl hB;rw [Vf P hB (by omega)];simp only [zzal0,cy q t l cs vs z a n m s c u b hd,qU];rw [Ng q t l cs vs z a n m _ _ _ _ ((a+1) % 2) P (Fq s c u b hd) hs hl];have hI:=y2d b ((a+1) % 2) P hd;change Option.bind (some (qU q t l cs vs z a n m (TY s c u b ((a+1) % 2) P))) _=_;generalize TY s c u b ((a+1) % 2) P=D at hI;simp only [zzal0,qU];rw [cy q t l cs vs z a n m _ _ _ _ hI];have hF:=Nh D hI;change Option.bind (some (qU q t l cs vs z a n m (Ti D))) _=_;generalize Ti D=D2 at hF;simp only [zzal0,qU,fU];change Option.bind (zH (D2.1,D2.2.1,D2.2.2.1,D2.2.2.2,q,t,l,cs,vs,z,a,n,m,(a+1) % 2,CJ (a+1) m P)) _=_;rw [g_ q t l cs vs z a n m _ _ _ _ _ _ hF];have hW:=y2e D2 ((a+1) % 2) (CJ (a+1) m P) hF;change Option.bind (some (qU q t l cs vs z a n m (ckW D2 ((a+1) % 2) (CJ (a+1) m P)))) _=_;generalize ckW D2 ((a+1) % 2) (CJ (a+1) m P)=D3 at hW;simp only [zzal0,qU];rw [cy q t l cs vs z a n m _ _ _ _ hW];change Option.bind (some (qU q t l cs vs z a n m (Ti D3))) _=_;generalize Ti D3=D4;obtain ⟨d1,d2,d3,d4⟩:=D4;simp only [zzal0,qU,w1];cases d4<;>rfl
end
theorem t8 {a b:y7}:qF a b=true↔a.1<b.1∨a.1=b.1∧a.2.1<b.2.1:=by
 unfold qF;by_cases h1:a.1<b.1
 ·simp [h1]
 ·by_cases h2:a.1=b.1<;>simp [h1,h2]
theorem E1 {a b:y7}:qG a b=true↔a.1=b.1∧a.2.1=b.2.1:=by simp [qG]
def Ni (l:List y7):Prop:=l.Pairwise fun a b=>qF a b=true
def BO:List y7→y7→List y7
 |[],k=>[k]
 |c::r,k=>if qF c k=true then c::BO r k else k::(c::r).filter fun x=> !qG x k
theorem Lu (k:y7): ∀ (l o:List y7),l.foldl (Zq k) (true,o)=(true,o++l.filter fun x=> !qG x k)
 |[],o=>by simp
 |c::l,o=>by
  rw [Zl,List.filter_cons];have e:Zq k (true,o) c=(true,if qG c k then o else o++[c]):=by simp [Zq]
  rw [e,Lu k l];cases qG c k<;>simp
def y2f (k:y7) (r:Bool×List y7):List y7:=if r.1 then r.2 else r.2++[k]
theorem E2 (k:y7): ∀ (l o:List y7),y2f k (l.foldl (Zq k) (false,o))=o++BO l k
 |[],o=>by simp [BO,y2f]
 |c::l,o=>by
  rw [Zl,BO];cases hl:qF c k with
  |true=>
   have hs:qG c k=false:=by
    cases hs:qG c k with
    |false=>rfl
    |true=>rw [t8] at hl;rw [E1] at hs;omega
   have e:Zq k (false,o) c=(false,o++[c]):=by simp [Zq,hl,hs]
   rw [e,E2 k l (o++[c])];simp
  |false=>
   have e:Zq k (false,o) c=(true,if qG c k then o++[k] else o++[k]++[c]):=by simp [Zq,hl]
   rw [e,Lu];simp only [y2f,yo,List.filter_cons,J6,zP];cases qG c k<;>simp
theorem BP (l:List y7) (k:y7):JU l k=BO l k:=by exact (E2 k l []).trans (jj _)
theorem BQ {k:y7}: ∀ {l:List y7} {x:y7},x∈BO l k→x=k∨x∈l
 |[],x,h=>by simpa [BO] using h
 |c::r,x,h=>by
  rw [BO] at h;split at h
  ·rcases yR.1 h with rfl|h
   ·exact .inr (by simp)
   ·rcases BQ h with h|h
    ·exact .inl h
    ·exact .inr (by simp [h])
  ·rcases yR.1 h with rfl|h
   ·exact .inl rfl
   ·exact .inr (List.mem_filter.1 h).1
theorem Lv (k:y7): ∀ (l:List y7),Ni l→Ni (BO l k)
 |[],_=>by simp [Ni,BO]
 |c::r,h=>by
  obtain ⟨h1,h2⟩:=aH.1 h;rw [BO];split
  ·rename_i hl;refine aH.2 ⟨fun y hy=> ?_,Lv k r h2⟩;rcases BQ hy with rfl|hy
   ·exact hl
   ·exact h1 y hy
  ·rename_i hl;refine aH.2 ⟨fun y hy=> ?_,List.Pairwise.filter _ h⟩;obtain ⟨hy,hs⟩:=List.mem_filter.1 hy;have hs': ¬ (y.1=k.1∧y.2.1=k.2.1):=fun e=>by
    rw [E1.2 e] at hs;cases hs
   rw [t8] at hl ⊢;rcases yR.1 hy with rfl|hy
   ·omega
   ·have:=t8.1 (h1 y hy);omega
theorem BS {l:List y7} (k:y7) (h:Ni l):Ni (JU l k):=by rw [BP];exact Lv k l h
theorem BT {l:List y7} {k x:y7} (h:x∈JU l k):x=k∨x∈l:=by rw [BP] at h;exact BQ h
theorem BU: ∀ (b a:List y7),Ni a→Ni (wJ a b)
 |[],_,h=>h
 |c::b,a,h=>BU b _ (BS c h)
theorem BV: ∀ (b a:List y7) {x:y7},x∈wJ a b→x∈a∨x∈b
 |[],_,_,h=> .inl h
 |c::b,a,x,h=>by
  rcases BV b (JU a c) h with h|h
  ·rcases BT h with rfl|h
   ·exact .inr (by simp)
   ·exact .inl h
  ·exact .inr (by simp [h])
theorem Lw: ∀ (l s:List y7),l.foldl qI s=s++l.filter fun c=> !decide (c.2.2.1=0)
 |[],s=>by simp
 |c::l,s=>by rw [Zl,Lw l,List.filter_cons];unfold qI;by_cases h:c.2.2.1=0<;>simp [h]
theorem Lx (l:List y7):m7 l=l.filter fun c=> !decide (c.2.2.1=0):=by have:=Lw l [];simpa [m7] using this
theorem E3 {l:List y7} (h:Ni l):Ni (m7 l):=by rw [Lx];exact List.Pairwise.filter _ h
theorem E4 {l:List y7} {x:y7} (h:x∈m7 l):x∈l:=by rw [Lx] at h;exact (List.mem_filter.1 h).1
theorem E5: ∀ (n:List yc) (s:List y7),Ni s→Ni (n.foldl wJ s)
 |[],_,h=>h
 |c::n,s,h=>E5 n _ (BU c s h)
theorem E6: ∀ (n:List yc) (s:List y7) {x:y7},x∈n.foldl wJ s→x∈s∨ ∃ c∈n,x∈(show List y7 from c)
 |[],_,_,h=> .inl h
 |c::n,s,x,h=>by
  rcases E6 n (wJ s c) h with h|⟨d,hd,hx⟩
  ·rcases BV c s h with h|h
   ·exact .inl h
   ·exact .inr ⟨c,by simp,h⟩
  ·exact .inr ⟨d,by simp [hd],hx⟩
theorem Tj (n:List yc):Ni (zm n):=E3 (E5 n [] List.Pairwise.nil)
theorem Tk {n:List yc} {x:y7} (h:x∈zm n): ∃ c∈n,x∈(show List y7 from c):=by
 rcases E6 n [] (E4 h) with h|h
 ·cases h
 ·exact h
theorem t9 {A:Type} {p:Int→A→Bool} (da:A): ∀ (l:List A) (i:Int),(∀ j:Nat,j<l.length→p (i+j) (l.getD j da)=false)→zk p l i=false
 |[],_,_=>rfl
 |a::l,i,h=>by rw [zk,WW];refine ⟨by simpa using h 0 (by simp),t9 da l (i+1) fun j hj=> ?_⟩;have:=h (j+1) (by simpa using hj);rw [rU] at this;rw [show i+1+(j:Int)=i+((j+1:Nat):Int) by omega];exact this
theorem hU {A:Type} (da:A) (l:List A) (j:Nat) (h:j<l.length):l.getD j da=l[j]:=by simp [List.getD,h]
theorem Tl {l:List y7} (h:Ni l):zk (Wc l) l 0=false:=by
 refine t9 zx l 0 fun j hj=> ?_;unfold Wc;cases j with
 |zero=>simp
 |succ j=>have h2:=List.pairwise_iff_getElem.1 h j (j+1) (by omega) hj (by omega);rw [show ((0:Int)+((j+1:Nat):Int) - 1).toNat=j by omega,hU _ _ _ (by omega),hU _ _ _ hj,h2];simp
theorem yeg {l:List y7} (h:Ni l) (hk: ∀ k∈l,Yz k=true) (hl:l.length≤60):bS l=true:=by unfold bS;rw [Tl h,t9 zx l 0 fun j hj=>by rw [hU _ _ _ hj,hk _ (uN hj)];rfl];simp;omega
def YF (l:List y7):List yc:=if l.length=0 then [] else [l]
theorem Nj {l:List y7} (h:Ni l) (hk: ∀ k∈l,Yz k=true) (hl:l.length≤8):Z2 (YF l)=true:=by
 unfold YF;split
 ·rfl
 ·rename_i h0;have h1:=yeg h hk (by omega);have h2:bT 0 l=(List.length l:Int):=by
   unfold bT;rw [zb (by omega) (by omega)];omega
  unfold Z2;simp only [zk,gU,h1,yJ,oD,Bool.or_false,Zl,List.foldl_nil,h2,yp,yr];rw [show (((List.length l:Nat):Int)==0)=false from ls.2 (by omega)];simp;omega
def FD (t:List y6) (l:List yb) (blk id:Int):Bool×y7:=nearest (keysOf (zV t) blk) ((pathOf l id).drop 1)
theorem Ly (ks:List y7):nearest ks []=(false,(0,0,0,0,0)):=by
 unfold nearest;induction ks with
 |nil=>rfl
 |cons a ks ih=>rw [Zl,show rp [] (false,((0:Int),(0:Int),(0:Int),(0:Int),(0:Int))) a=(false,(0,0,0,0,0)) by unfold rp y20 Zb;simp];exact ih
theorem nJ (q:List Int) (t:List y6) (l:List yb) (blk id:Int) (ht:Jl t) (hl:l.length≤1048576):wm (q,t,l,blk,id)=some (ans (FD t l blk id)):=by
 unfold wm FD nz;have hp:=Bm l id hl;simp only [mb l id hl,zzal0];generalize pathOf l id=p at hp;cases p with
 |nil=>rw [show List.drop 1 ([]:List Int)=[] from rfl,Ly];rfl
 |cons a p=>
  have h1:(((a::p).length:Int)==0)=false:=by simp only [yp,ls,ne_eq];omega
  have h2:(1:Int)≤((a::p).length:Int):=by simp only [yp];omega
  have e:WP (q,t,blk,List.drop (Int.toNat (1:Int)) (List.take (Int.toNat ((a::p).length:Int)) (a::p)))=some (ans (nearest (keysOf (zV t) blk) (List.drop 1 (a::p)))):=by rw [show Int.toNat ((a::p).length:Int)=(a::p).length by omega,List.take_length];exact rq q t blk _ ht (by simp only [wU];omega)
  simp only [h1,yi,h2,yP,yo,e,zzal0];rw [y0 (by omega)]
def ue (vs:List yj) (id:Int):Bool:= !zk (kj id) vs 0
theorem hZ (q:List Int) (t:List y6) (l:List yb) (cs:List ya) (vs:List yj) (z id:Int) (hv:vs.length≤1048576):aw (q,t,l,cs,vs,z,id)=some (ue vs id):=by
 unfold aw nE ue nz;refine (zZ (step:=KR _ _) (fun i=>(id,i,q,t,l,cs,vs,z)) (kj id) (some false) (some true) w9 vs (by omega) ?_ ?_).trans ?_
 ·intro again i h0 h1;have hw:Go.IntKind.wrap .i64 (i+1)=i+1:=zb (by omega) (by omega);unfold KR kj nz;have hx:vs.getD i.toNat w9=yC vs i:=rfl;rw [hx];simp only [yl,ym,h0,h1,yo,hw]
 ·intro again i hi;unfold KR nz;simp only [yl,ym,y9 hi]
 ·cases zk (kj id) vs 0<;>rfl
def Vg (q:List Int) (sp:Int):Nat→Int
 |0=> -1
 |n+1=>if q.getD n 0≤sp then (n:Int) else Vg q sp n
def KE (blk age:Int):Int:=Go.IntKind.wrap .i64 (Go.IntKind.wrap .i64 ((64:Int)*blk)+age)
theorem BW (q:List Int) (sp:Int): ∀ n,-1≤Vg q sp n∧Vg q sp n<n
 |0=>by simp [Vg]
 |n+1=>by have:=BW q sp n;rw [Vg];split<;>omega
theorem lf (q:List Int) (t:List y6) (blk age:Int) (hq:q.length≤1048576):kw (q,t,blk,age)=some (Vg q (KE blk age) q.length):=by
 unfold kw fH nz;have h:=Ym (step:=k_ (fun x2=>some x2)) (fun u:kZ=>q.length - u.2.2.2.1.toNat) (fun u=> ∃ n:Nat,n≤q.length∧u=(blk,age,Vg q (KE blk age) n,(n:Int),q,t)) (fun _=>some (Vg q (KE blk age) q.length)) ?_ (blk,age,-1,0,q,t) ⟨0,by omega,rfl⟩ (by simp;omega)
 ·exact h
 ·rintro again u ⟨n,hn,rfl⟩ hag;have hw:Go.IntKind.wrap .i64 ((n:Int)+1)=((n+1:Nat):Int):=by rw [zb (by omega) (by omega)];omega
  unfold k_ KJ nz;have h0:0≤(n:Int):=by omega
  by_cases hlt:(n:Int)<(q.length:Int)
  ·have hx:Y4 q (n:Int)=q.getD n 0:=rfl;simp only [yl,ym,hlt,h0,yo,zzal0,hw,hx];have e:=hag (blk,age,Vg q (KE blk age) (n+1),((n+1:Nat):Int),q,t) ⟨n+1,by omega,rfl⟩ (by simp only;omega);rw [Vg] at e;unfold KE at e ⊢;split
   ·rename_i hc;rw [y0 hc] at e;exact e
   ·rename_i hc;rw [y9 hc] at e;exact e
  ·rw [show n=q.length by omega];simp
abbrev Ans:Type:=Int×Int×Int×Int×Int×Bool
def E7:Ans:=(0,0,0,0,0,false)
def atP (blk age:Int) (a:y7):Bool:=a.1==blk&&a.2.1==age
def Nk (a:y7):Ans:=(a.1,a.2.1,a.2.2.1,a.2.2.2.1,a.2.2.2.2,true)
def h_ (l:List y7) (blk age:Int):Ans:=if Zb (atP blk age) l 0<0 then E7 else Nk (yy l (Zb (atP blk age) l 0))
theorem nK (l:List y7) (blk age:Int) (hl:l.length≤1073741824):VG (l,blk,age)=some (h_ l blk age):=by
 unfold VG lW h_ nz;refine (Kr (step:=kx _ _) (fun i=>(l,blk,age,i,0,0,0,0,0)) (atP blk age) (fun i=>some (Nk (yy l i))) (some E7) zx l (by omega) ?_ ?_).trans ?_
 ·intro again i h0 h1;have hw:Go.IntKind.wrap .i64 (i+1)=i+1:=zb (by omega) (by omega);unfold kx atP Nk nz;obtain ⟨⟨x1,x2,x3,x4,x5⟩,hx⟩: ∃ x,yy l i=x:=⟨_,rfl⟩
  have hx':l.getD i.toNat zx=(x1,x2,x3,x4,x5):=hx;rw [hx'];simp only [yl,ym,h0,h1,yo,hw,hx];cases (x1==blk)<;>cases (x2==age)<;>rfl
 ·intro again i hi;unfold kx nz;simp only [yl,ym,y9 hi];rfl
 ·split<;>rfl
def mm (n:List yc) (blk age:Int):Nat→Ans
 |0=>E7
 |m+1=>if (h_ (n.getD m zN) blk age).2.2.2.2.2=true then (if ((h_ (n.getD m zN) blk age).2.2.1==0)=true then E7 else h_ (n.getD m zN) blk age) else mm n blk age m
theorem BX (n:List yc) (blk age:Int) (hn:n.length≤1048576) (hs: ∀ s∈n,List.length s≤1073741824):QC (n,blk,age)=some (mm n blk age n.length):=by
 unfold QC iz nz;rw [zb (n:=(n.length:Int) - 1) (by omega) (by omega)];refine (Ym (step:=vf _ _) (fun u:ve=>(u.2.2.1+1).toNat) (fun u=> ∃ m:Nat,m≤n.length∧u=(blk,age,(m:Int) - 1,n,0,0,0,0,0)) (fun u=>some (mm n blk age (u.2.2.1+1).toNat)) ?_ (blk,age,(n.length:Int) - 1,n,0,0,0,0,0) ⟨n.length,by omega,rfl⟩ (by simp;omega)).trans ?_
 ·rintro again u ⟨m,hm,rfl⟩ hag;unfold vf nz;cases m with
  |zero=>rfl
  |succ m=>
   have e1:((m+1:Nat):Int) - 1=(m:Int):=by omega
   have hw:Go.IntKind.wrap .i64 ((m:Int) - 1)=(m:Int) - 1:=zb (by omega) (by omega);have h0:0≤(m:Int):=by omega
   have h1:(m:Int)<(n.length:Int):=by omega
   have e:=nK (yK n (m:Int)) blk age (hs _ (zz zN n (m:Int) h0 h1));have hx:n.getD m zN=yK n (m:Int):=rfl;rw [e1];simp only [yl,ym,ge_iff_le,h0,h1,yo,zzal0,hw,e];have e':=hag (blk,age,(m:Int) - 1,n,0,0,0,0,0) ⟨m,by omega,rfl⟩ (by simp only;omega);rw [e',show ((m:Int)+1).toNat=m+1 by omega,mm,hx];simp only;rw [show ((m:Int) - 1+1).toNat=m by omega];obtain ⟨r1,r2,r3,r4,r5,r6⟩:=h_ (yK n (m:Int)) blk age;cases r6
   ·rfl
   ·cases h3:(r3==0)<;>simp [h3,E7]
 ·simp only;rw [show ((n.length:Int) - 1+1).toNat=n.length by omega]
def Kv (q:List Int) (t:List y6) (blk age:Int):Ans:=
 if Yn (Vg q (KE blk age) q.length) 0 ((t.length:Int) - 1)=true then mm (yt t (Vg q (KE blk age) q.length)) blk age (yt t (Vg q (KE blk age) q.length)).length else E7
theorem qO (q:List Int) (t:List y6) (blk age:Int) (ht:Jl t) (hq:q.length≤1048576):WO (q,t,blk,age)=some (Kv q t blk age):=by
 unfold WO Kv nz;have hlen:=ht.len;rw [zb (n:=(t.length:Int) - 1) (by omega) (by omega)];simp only [lf q t blk age hq,zK,zzal0];generalize Vg q (KE blk age) q.length=i;by_cases h:Yn i 0 ((t.length:Int) - 1)=true
 ·obtain ⟨h0,h1⟩:=zi.1 h;have hmem:yt t i∈t:=zz y_ t i h0 (by omega);obtain ⟨a1,a2⟩:=ht.node hmem;have e:=BX (yt t i) blk age a1 (fun s hs=>by have:=a2 s hs;omega);rw [h,y0 h0,y0 (by omega),e];rfl
 ·have:Yn i 0 ((t.length:Int) - 1)=false:=by simpa using h
  rw [this];rfl
structure NS (n:List yc):Prop where
 len:n.length≤1000
 sum:Yh J8 n≤1000
theorem NS.mem {n:List yc} (h:NS n) {s:yc} (hs:s∈n):List.length s≤1000:=by have h1:=(az Ve hs).1;have h2:=h.sum;have h3:J8 s=(List.length s:Int):=rfl;omega
theorem NS.q {n:List yc} (h:NS n):Bj n:=⟨YI h.len (by decide),fun b hb=>YI (h.mem hb) (by decide)⟩
theorem NS.keys {n:List yc} (h:NS n):(zm n).length≤1000:=by have h1:=Qr n;have h2:=h.sum;omega
def Vh (n:List yc):yc:=n.getD (n.length - 1) zN
theorem Tm {n:List yc} (h:0<n.length):Vh n∈n:=by unfold Vh;rw [hU _ _ _ (by omega)];exact uN _
def bX (n:List yc) (k:y7):List yc:=
 if 0<n.length∧(List.length (Vh n)<4∨(h_ (Vh n) k.1 k.2.1).2.2.2.2.2=true) then n.set (n.length - 1) (JU (Vh n) k) else n++[[k]]
def wR (n:List yc) (k:y7):List y7:=m7 (JU (zm n) k)
def Z8 (n:List yc) (k:y7):List yc×Bool:=
 if Z2 (bX n k)=true then (bX n k,true) else if (wR n k).length>8 then (n,false) else if Z2 (YF (wR n k))=true then (YF (wR n k),true) else (n,false)
theorem To (l:List y7):(m7 l).length≤l.length:=by have:=sR l [];simpa [m7] using this
theorem ta (n:List yc) (k:y7):(wR n k).length≤(zm n).length+1:=by have h1:=To (JU (zm n) k);have h2:=kP (zm n) k;unfold wR;omega
theorem WJ (l:List y7) (h:l.length≤1048576):zF l=some (YF l):=by
 unfold zF YF nz;by_cases h0:l.length=0
 ·rw [y0 h0,show (((List.length l:Nat):Int)==0)=true from vM.2 (by omega)];rfl
 ·rw [y9 h0,show (((List.length l:Nat):Int)==0)=false from ls.2 (by omega),yi,y0 (by simp only [yr];omega)];rfl
theorem dG {l:List y7} (h:l.length≤1000):NS (YF l):=by
 unfold YF;split
 ·exact ⟨by simp,by simp [Yh]⟩
 ·exact ⟨by simp,by simp [Yh,J8];omega⟩
theorem Lz (l:List y7):(YF l).length≤1∧Yh J8 (YF l)≤l.length:=by
 unfold YF;split
 ·exact ⟨by simp,by simp [Yh]⟩
 ·exact ⟨by simp,by simp [Yh,J8]⟩
theorem y4U {n:List yc} (i:Nat) (s:yc) (hi:i<n.length):Yh J8 (n.set i s)=Yh J8 n - J8 (n.getD i zN)+J8 s:=by
 induction n generalizing i with
 |nil=>simp at hi
 |cons a n ih=>
  cases i with
  |zero=>rw [List.set_cons_zero,Yp,Yp];simp;omega
  |succ i=>rw [List.set_cons_succ,Yp,Yp,ih i (by simpa using hi),rU];omega
theorem mU {A:Type} (w:A→Int) (l:List A) (a:A):Yh w (l++[a])=Yh w l+w a:=by
 induction l with
 |nil=>simp [Yh]
 |cons b l ih=>rw [aK,Yp,Yp,ih];omega
theorem BZ (n:List yc) (k:y7):(bX n k).length≤n.length+1∧Yh J8 (bX n k)≤Yh J8 n+1:=by
 unfold bX;split
 ·rename_i h;have h1:=kP (Vh n) k;have h2:J8 (JU (Vh n) k)≤J8 (Vh n)+1:=by
   unfold J8;have:List.length (JU (Vh n) k)≤List.length (Vh n)+1:=h1;omega
  rw [Yt,y4U _ _ (by omega)];have e:n.getD (n.length - 1) zN=Vh n:=rfl;rw [e];constructor<;>omega
 ·rw [mU,yU];have e:J8 [k]=1:=rfl;rw [e];exact ⟨jk _,yP _⟩
theorem NS.small {n:List yc} (h1:n.length≤1001) (h2:Yh J8 n≤1001):n.length≤1073741824∧ ∀ s∈n,List.length s≤1073741824:=by refine ⟨by omega,fun s hs=> ?_⟩;have h3:=(az Ve hs).1;have h4:J8 s=(List.length s:Int):=rfl;omega
section
variable (n:List yc) (a b c d e:Int) (h:NS n)
include h
theorem lg:jS (n,a,b,c,d,e)=some (Z8 n (a,b,c,d,e)):=by
 have hk:=h.keys;have hl:=h.len;have hs:=h.sum;have hW:=ta n (a,b,c,d,e);have hN:=Lz (wR n (a,b,c,d,e));have hN2:=NS.small (n:=YF (wR n (a,b,c,d,e))) (by omega) (by omega);have hO:=BZ n (a,b,c,d,e);have hO2:=NS.small (n:=bX n (a,b,c,d,e)) (by omega) (by omega);have hw:Go.IntKind.wrap .i64 ((n.length:Int) - 1)=(n.length:Int) - 1:=zb (by omega) (by omega);have hT: ∀ out,out=bX n (a,b,c,d,e)→(Option.bind (Y6 out) fun r6=>bif r6 then some (out,true) else Option.bind (z7 n) fun r7=>Option.bind (Yk (r7,a,b,c,d,e)) fun r8=>Option.bind (Z5 r8) fun r9=>bif (decide (((List.length r9:Nat):Int)>(8:Int))) then some (n,false) else Option.bind (zF r9) fun Nl=>Option.bind (Y6 Nl) fun r12=>bif (!r12) then some (n,false) else Option.bind (zF r9) fun r14=>some (r14,true))=some (Z8 n (a,b,c,d,e)):=by
  rintro out rfl;have e1:Z5 (JU (zm n) (a,b,c,d,e))=some (wR n (a,b,c,d,e)):=gQ _ (by have:=kP (zm n) (a,b,c,d,e);omega);simp only [dC _ hO2.1 hO2.2,jC n (by omega) (by omega),kQ (zm n) a b c d e (by omega),e1,WJ (wR n (a,b,c,d,e)) (by omega),dC _ hN2.1 hN2.2,zzal0];unfold Z8;cases Z2 (bX n (a,b,c,d,e)) with
  |true=>rfl
  |false=>
   by_cases h8:(wR n (a,b,c,d,e)).length>8
   ·rw [yG (show ((List.length (wR n (a,b,c,d,e)):Nat):Int)>8 by omega),y0 h8];rfl
   ·rw [yX (show ¬ ((List.length (wR n (a,b,c,d,e)):Nat):Int)>8 by omega),y9 h8];cases Z2 (YF (wR n (a,b,c,d,e)))<;>rfl
 unfold jS nz;simp only [dA n h.q,zzal0,hw];by_cases h0:n.length=0
 ·have e1: ¬ (0<n.length∧(List.length (Vh n)<4∨(h_ (Vh n) a b).2.2.2.2.2=true)):=fun hh=>by omega
  simp only [yX (show ¬ ((n.length:Int) - 1≥0) by omega),yi,zzal0];rw [y0 (by simp only [yp,yr];omega)];exact hT _ (by unfold bX;rw [y9 e1])
 ·have i0:0≤(n.length:Int) - 1:=by omega
  have i1:(n.length:Int) - 1<((List.length n:Nat):Int):=by omega
  have hlm:=h.mem (Tm (n:=n) (by omega));have erd:yK n ((n.length:Int) - 1)=Vh n:=by show n.getD ((n.length:Int) - 1).toNat zN=n.getD (n.length - 1) zN;congr 1;omega
  have etn:((n.length:Int) - 1).toNat=n.length - 1:=by omega
  rw [yG (show (n.length:Int) - 1≥0 from i0)];simp only [yg,i0,i1,yo,erd,etn,nK (Vh n) a b (by omega),kQ (Vh n) a b c d e (by omega),zzal0];by_cases h4:List.length (Vh n)<4
  ·rw [yG (show ((List.length (Vh n):Nat):Int)<4 by omega)];exact hT _ (by unfold bX;rw [y0 ⟨by omega,.inl h4⟩])
  ·rw [yX (show ¬ ((List.length (Vh n):Nat):Int)<4 by omega)];cases hA:(h_ (Vh n) a b).2.2.2.2.2 with
   |true=>exact hT _ (by unfold bX;rw [y0 ⟨by omega,.inr hA⟩])
   |false=>
    simp only [yi,zzal0];rw [y0 (by simp only [yp,yr];omega)];exact hT _ (by
     unfold bX;rw [y9 fun hh=> ?_];rcases hh.2 with hh|hh
     ·exact h4 hh
     ·rw [hA] at hh;cases hh)
end
structure TS (t:List y6):Prop where
 len:t.length≤100
 node: ∀ n∈t,NS n
theorem TS.ok {t:List y6} (h:TS t):Jl t:=by
 have hl:=h.len;refine ⟨by omega,fun n hn=>YI (h.node n hn).len (by decide),?_⟩;have hb: ∀ (t:List y6),(∀ n∈t,NS n)→Yh KY t≤2000*t.length:=by
  intro t;induction t with
  |nil=>intro _;simp [Yh]
  |cons a t ih=>intro hn;have h1:=ih fun n h=>hn n (by simp [h]);have h2:=hn a (by simp);have h3:KY a=(List.length a:Int)+Yh J8 a:=rfl;have h4:List.length a≤1000:=h2.len;have h5:Yh J8 a≤1000:=h2.sum;rw [Yp,yp];omega
 have:=hb t h.node;omega
def Yj {A:Type} (l:List A) (i c:Nat) (m:List A):List A:=l.take i++m++l.drop (i+c)
theorem We {A:Type} (l:List A) (i c:Nat) (m:List A) (h:i+c≤l.length):(Yj l i c m).length=l.length+m.length - c:=by unfold Yj;simp only [yU,Za,wU];omega
theorem Nm {A:Type} {l:List A} {i c:Nat} {m:List A} {x:A} (h:x∈Yj l i c m):x∈l∨x∈m:=by
 unfold Yj at h;rcases zB.1 h with h|h
 ·rcases zB.1 h with h|h
  ·exact .inl (lr h)
  ·exact .inr h
 ·exact .inl (xO h)
theorem B_ {A:Type} (l:List A) (i:Nat) (x:A) (h:i<l.length):Yj l i 1 [x]=l.set i x:=by unfold Yj;rw [List.set_eq_take_append_cons_drop,y0 h];simp
theorem Nn {A:Type} (d:A) (l:List A) (i:Nat) (h:i+2≤l.length):Yj l i 2 [l.getD i d]=l.take (i+1)++l.drop (i+2):=by unfold Yj;rw [hU _ _ _ (by omega),Mi (by omega)]
theorem TS.splice {t:List y6} (h:TS t) {i c:Nat} {m:List y6} (hl:(Yj t i c m).length≤100) (hm: ∀ n∈m,NS n):TS (Yj t i c m):=
 ⟨hl,fun n hn=>(Nm hn).elim (h.node n) (hm n)⟩
theorem ff (q:List Int) (t:List y6) (i:Int) (ql:List Int) (tl:List y6) (h0:0≤i) (h1:i<(q.length:Int)) (h2:i<(t.length:Int)) (hq:q.length≤1000) (ht:t.length≤1000) (hql:ql.length≤1000) (htl:tl.length≤1000):
  K0 (q,t,i,ql,tl)=some (Yj q i.toNat 1 ql,Yj t i.toNat 1 tl):=by
 have hw:Go.IntKind.wrap .i64 (i+1)=i+1:=zb (by omega) (by omega);have e1:(i+1).toNat=i.toNat+1:=by omega
 unfold K0 nz;simp only [hw]
 iterate 18 rw [y0 (by first|omega|(simp only [yU,wU,Za,yr];omega))]
 simp [Yj,e1]
def zn:List y6→Int→Int
 |a::b::r,i=>if (zm a).length+(zm b).length≤6 then i else zn (b::r) (i+1)
 |_,_=> -1
theorem LA (l:List y6) (i:Int) (h:l.length≤1):zn l i= -1:=by
 match l,h with
 |[],_=>rfl
 |[_],_=>rfl
theorem C0: ∀ (l:List y6) (i:Int),zn l i= -1∨i≤zn l i∧zn l i+2≤i+l.length∧(zm (l.getD (zn l i - i).toNat y_)).length+(zm (l.getD (zn l i - i+1).toNat y_)).length≤6
 |[],_=> .inl rfl
 |[_],_=> .inl rfl
 |a::b::r,i=>by
  rw [zn];by_cases h:(zm a).length+(zm b).length≤6
  ·rw [y0 h];refine .inr ⟨yP _,by simp only [yp];omega,?_⟩;rw [show (i - i).toNat=0 by omega,show (i - i+1).toNat=1 by omega];exact h
  ·rw [y9 h];rcases C0 (b::r) (i+1) with h1|⟨h1,h2,h3⟩
   ·exact .inl h1
   ·refine .inr ⟨by omega,by simp only [yp] at h2 ⊢;omega,?_⟩;rw [show (zn (b::r) (i+1) - i).toNat=(zn (b::r) (i+1) - (i+1)).toNat+1 by omega,show (zn (b::r) (i+1) - i+1).toNat=(zn (b::r) (i+1) - (i+1)+1).toNat+1 by omega,rU,rU];exact h3
theorem y2g (t:List y6) (i:Int) (h0:0≤i) (h1:i+1<(t.length:Int)):zn (t.drop i.toNat) i=if (zm (yt t i)).length+(zm (yt t (i+1))).length≤6 then i else zn (t.drop (i+1).toNat) (i+1):=by rw [ZW y_ t i h0 (by omega),ZW y_ t (i+1) (by omega) h1,zn];rfl
theorem nk {t:List y6} (h:TS t) {i:Int} (h0:0≤i) (h1:i<(t.length:Int)):NS (yt t i):=h.node _ (zz y_ t i h0 h1)
theorem aB {t:List y6} (h:TS t) {i:Int} (h0:0≤i) (h1:i<(t.length:Int)):z7 (yt t i)=some (zm (yt t i)):=by have hn:=nk h h0 h1;exact jC _ (YI hn.len (by decide)) (lw hn.sum (by decide))
theorem rC (q:List Int) (t:List y6) (h:TS t):KO (q,t)=some (zn t 0):=by
 have hl:=h.len;unfold KO iA nz;refine Ym (step:=vg _ _) (fun x:Int×List Int×List y6=>t.length - x.1.toNat) (fun x=>x.2.2=t∧0≤x.1∧x.1≤(t.length:Int)) (fun x=>some (zn (t.drop x.1.toNat) x.1)) ?_ (0,q,t) ⟨rfl,yP _,by simp⟩ (by simp;omega);rintro again ⟨i,q',t'⟩ ⟨rfl,i0,i1⟩ hag;simp only at i0 i1 hl h ⊢;unfold vg nz;by_cases hi:i+1<(t'.length:Int)
 ·have hw:Go.IntKind.wrap .i64 (i+1)=i+1:=zb (by omega) (by omega);have k1:=nk h i0 (show i<(t'.length:Int) by omega);have k2:=nk h (show 0≤i+1 by omega) hi;have hw2:Go.IntKind.wrap .i64 (((List.length (zm (yt t' i)):Nat):Int)+((List.length (zm (yt t' (i+1))):Nat):Int))=((List.length (zm (yt t' i)):Nat):Int)+((List.length (zm (yt t' (i+1))):Nat):Int):=zb (by omega) (by have:=k1.keys;have:=k2.keys;omega);simp only [hw,aB h i0 (show i<(t'.length:Int) by omega),aB h (show 0≤i+1 by omega) hi,zzal0,hw2];rw [yG hi,yg,y0 i0,y0 (by omega),y0 (by omega),y0 hi,y2g t' i i0 hi];by_cases h6:(zm (yt t' i)).length+(zm (yt t' (i+1))).length≤6
  ·rw [yG (show ((List.length (zm (yt t' i)):Nat):Int)+((List.length (zm (yt t' (i+1))):Nat):Int)≤6 by omega),y0 h6];rfl
  ·rw [yX (show ¬ ((List.length (zm (yt t' i)):Nat):Int)+((List.length (zm (yt t' (i+1))):Nat):Int)≤6 by omega),y9 h6];exact hag _ ⟨rfl,by simp only;omega,by simp only;omega⟩ (by simp only;omega)
 ·have hw: ¬ Go.IntKind.wrap .i64 (i+1)<(t'.length:Int):=by
   rw [zb (by omega) (by omega)];exact hi
  rw [yX hw,LA _ _ (by rw [wU];omega)];rfl
def Vi:Nat→List Int→List y6→List Int×List y6
 |0,q,t=>(q,t)
 |m+1,q,t=>if zn t 0<0 then (q,t) else Vi m (Yj q (zn t 0).toNat 2 [q.getD (zn t 0).toNat 0]) (Yj t (zn t 0).toNat 2 [YF (zm (t.getD (zn t 0).toNat y_)++zm (t.getD (zn t 0+1).toNat y_))])
section
variable {q:List Int} {t:List y6} (h:TS t) (hq:q.length=t.length) (hp: ¬ zn t 0<0)
include h hp
omit h in
theorem xG:0≤zn t 0∧zn t 0+2≤(t.length:Int)∧(zm (yt t (zn t 0))).length+(zm (yt t (zn t 0+1))).length≤6:=by
 rcases C0 t 0 with h1|⟨h1,h2,h3⟩
 ·omega
 ·refine ⟨h1,by omega,?_⟩;rw [Int.sub_zero] at h3;exact h3
theorem Rl:TS (Yj t (zn t 0).toNat 2 [YF (zm (yt t (zn t 0))++zm (yt t (zn t 0+1)))]):=by obtain ⟨h1,h2,h3⟩:=xG hp;have hl:=h.len;refine h.splice (by rw [We _ _ _ _ (by omega)];simp only [yp,yr];omega) fun n hn=> ?_;obtain rfl:=aI.1 hn;exact dG (by rw [yU];omega)
include hq
theorem y2h:(Yj t (zn t 0).toNat 2 [YF (zm (yt t (zn t 0))++zm (yt t (zn t 0+1)))]).length=t.length - 1∧(Yj q (zn t 0).toNat 2 [q.getD (zn t 0).toNat 0]).length=t.length - 1:=by obtain ⟨h1,h2,h3⟩:=xG hp;rw [We _ _ _ _ (by omega),We _ _ _ _ (by omega)];simp only [yp,yr];omega
theorem Np:Vi t.length q t=Vi (t.length - 1) (Yj q (zn t 0).toNat 2 [q.getD (zn t 0).toNat 0]) (Yj t (zn t 0).toNat 2 [YF (zm (yt t (zn t 0))++zm (yt t (zn t 0+1)))]):=by obtain ⟨h1,h2,h3⟩:=xG hp;rw [show t.length=(t.length - 1)+1 by omega,Vi,y9 hp];rfl
end
theorem Tq {q:List Int} {t:List y6} (m:Nat) (hp:zn t 0<0):Vi m q t=(q,t):=by
 cases m with
 |zero=>rfl
 |succ m=>rw [Vi,y0 hp]
theorem FE (q:List Int) (t:List y6) (h:TS t) (hq:q.length=t.length):JS (q,t)=some (Vi t.length q t):=by
 have hl:=h.len;unfold JS iB nz;simp only [rC q t h,zzal0];refine Ym (step:=vh _) (fun x:Int×List Int×List y6=>x.2.2.length) (fun x=>TS x.2.2∧x.2.1.length=x.2.2.length∧x.1=zn x.2.2 0) (fun x=>some (Vi x.2.2.length x.2.1 x.2.2)) ?_ (zn t 0,q,t) ⟨h,hq,rfl⟩ (by simp only;omega);rintro again ⟨i,q,t⟩ ⟨h,hq,hi⟩ hag;simp only at h hq hi ⊢;subst hi;have hl:=h.len;unfold vh nz;by_cases hp:zn t 0<0
 ·rw [yX (show ¬ zn t 0≥0 by omega),Tq _ hp];rfl
 ·obtain ⟨h1,h2,h3⟩:=xG hp;have hw:Go.IntKind.wrap .i64 (zn t 0+1)=zn t 0+1:=zb (by omega) (by omega);have hw2:Go.IntKind.wrap .i64 (zn t 0+2)=zn t 0+2:=zb (by omega) (by omega);have hT:=Rl h hp;have hL:=y2h h hq hp;have eq1:([]++List.drop (Int.toNat 0) (List.take (Int.toNat (zn t 0+1)) q))++List.drop (Int.toNat (zn t 0+2)) (List.take (Int.toNat (q.length:Int)) q)=Yj q (zn t 0).toNat 2 [q.getD (zn t 0).toNat 0]:=by
   rw [Nn 0 q _ (by omega),show (zn t 0+1).toNat=(zn t 0).toNat+1 by omega,show (zn t 0+2).toNat=(zn t 0).toNat+2 by omega];simp
  have eq2: ∀ n:y6,(([]++List.drop (Int.toNat 0) (List.take (Int.toNat (zn t 0)) t))++[n])++List.drop (Int.toNat (zn t 0+2)) (List.take (Int.toNat (t.length:Int)) t)=Yj t (zn t 0).toNat 2 [n]:=fun n=>by rw [show (zn t 0+2).toNat=(zn t 0).toNat+2 by omega];simp [Yj]
  simp only [hw,hw2,aB h h1 (show zn t 0<(t.length:Int) by omega),aB h (show 0≤zn t 0+1 by omega) (show zn t 0+1<(t.length:Int) by omega),WJ (zm (yt t (zn t 0))++zm (yt t (zn t 0+1))) (by rw [yU];omega),zzal0,eq1,eq2,rC _ _ hT];rw [yG (show zn t 0≥0 from h1),yg]
  iterate 22 rw [y0 (by first|omega|(simp only [yU,wU,Za,yr,yp];omega))]
  rw [Np h hq hp,← hL.1];exact hag (zn (Yj t (zn t 0).toNat 2 [YF (zm (yt t (zn t 0))++zm (yt t (zn t 0+1)))]) 0,Yj q (zn t 0).toNat 2 [q.getD (zn t 0).toNat 0],Yj t (zn t 0).toNat 2 [YF (zm (yt t (zn t 0))++zm (yt t (zn t 0+1)))]) ⟨hT,hL.2.trans hL.1.symm,rfl⟩ (by simp only;omega)
theorem LD: ∀ (n:List yc) (s:Int),0≤s→s+60*n.length≤1000→(∀ a∈n,List.length a≤60)→n.foldl bT s=s+Yh J8 n
 |[],s,_,_,_=>by simp [Yh]
 |a::n,s,h0,hb,ha=>by have h1:=ha a (by simp);rw [yp] at hb;have hw:bT s a=s+(List.length a:Int):=zb (by omega) (by omega);have e:J8 a=(List.length a:Int):=rfl;rw [Zl,hw,LD n _ (by omega) (by omega) fun b hm=>ha b (by simp [hm]),Yp,e];omega
theorem JV {n:List yc} (h:Z2 n=true):n.length≤3∧Yh J8 n≤8∧ ∀ s∈n,∀ k∈(show List y7 from s),Yz k=true:=by obtain ⟨h1,h2⟩:=mS h;have h3:=LD n 0 (yP _) (by omega) fun a ha=>(rz (h2 a ha)).1;unfold Z2 at h;simp only [zzal10,ym] at h;exact ⟨h1,by omega,fun s hs=>(rz (h2 s hs)).2⟩
theorem tb {n:List yc} (h:Z2 n=true):NS n:=⟨by have:=(JV h).1;omega,by have:=(JV h).2.1;omega⟩
theorem mV {q:List Int} {t:List y6} (h:ZX q t=true):TS t:=by obtain ⟨h1,h2,h3,h4⟩:=WU h;exact ⟨by omega,fun n hn=>tb (h4 n hn)⟩
theorem LG {q:List Int} {t:List y6} (h:ZX q t=true):q.getD 0 0=0:=by unfold ZX at h;simp only [zzal10,vM] at h;exact h.2.2.1
theorem rD (q:List Int) (sp:Int) (h:q.getD 0 0≤sp): ∀ n,0≤Vg q sp (n+1)
 |0=>by rw [Vg,y0 h];simp
 |n+1=>by
  rw [Vg];split
  ·omega
  ·exact rD q sp h n
theorem y2i {k:y7} (h:Yz k=true):0≤KE k.1 k.2.1:=by unfold Yz at h;simp only [zzal10,zi] at h;obtain ⟨h1,h2,_⟩:=h;unfold KE;rw [zb (n:=(64:Int)*k.1) (by omega) (by omega),zb (by omega) (by omega)];omega
theorem y2j {n:List yc} {k:y7} (hn:Z2 n=true) (hk:Yz k=true) (h:(Z8 n k).2=false):8<(wR n k).length:=by
 unfold Z8 at h;split at h
 ·cases h
 ·split at h
  ·assumption
  ·rename_i h8;have hok:Z2 (YF (wR n k))=true:=Nj (E3 (BS k (Tj n))) (fun x hx=>by
    rcases BT (E4 hx) with rfl|hx
    ·exact hk
    ·obtain ⟨c,hc,hx⟩:=Tk hx;exact (JV hn).2.2 c hc x hx) (by omega)
   rw [y0 hok] at h;cases h
theorem C1 {n:List yc} (k:y7) (h:NS n) (h2:n.length≤900∧Yh J8 n≤900):NS (Z8 n k).1:=by
 have h1:=BZ n k;have h3:=ta n k;have h4:=Qr n;unfold Z8;split
 ·exact ⟨by simp only;omega,by simp only;omega⟩
 ·split
  ·exact h
  ·split
   ·exact dG (by omega)
   ·exact h
def putAt (q:List Int) (k:y7):Nat:=(Vg q (KE k.1 k.2.1) q.length).toNat
def c7 (l:List y7):Nat:=(l.length+1) / 2
def zO (q:List Int) (t:List y6) (k:y7):List Int×List y6:=
 if (Z8 (t.getD (putAt q k) y_) k).2=false then
  (Yj q (putAt q k) 1 [q.getD (putAt q k) 0,DW ((wR (t.getD (putAt q k) y_) k).getD (c7 (wR (t.getD (putAt q k) y_) k)) zx)],
   Yj t (putAt q k) 1 [YF ((wR (t.getD (putAt q k) y_) k).take (c7 (wR (t.getD (putAt q k) y_) k))),YF ((wR (t.getD (putAt q k) y_) k).drop (c7 (wR (t.getD (putAt q k) y_) k)))])
 else if 0<putAt q k∧(zm (Z8 (t.getD (putAt q k) y_) k).1).length=0 then (Yj q (putAt q k) 1 [],Yj t (putAt q k) 1 [])
 else (q,t.set (putAt q k) (Z8 (t.getD (putAt q k) y_) k).1)
def zg (q:List Int) (t:List y6) (k:y7):List Int×List y6×Bool:=
 if (ZX q t&&Yz k)=true then
  (if ZX (Vi (zO q t k).2.length (zO q t k).1 (zO q t k).2).1 (Vi (zO q t k).2.length (zO q t k).1 (zO q t k).2).2=true then
   ((Vi (zO q t k).2.length (zO q t k).1 (zO q t k).2).1,(Vi (zO q t k).2.length (zO q t k).1 (zO q t k).2).2,true) else (q,t,false))
 else (q,t,false)
theorem LH: ∀ (m:Nat) (q:List Int) (t:List y6),TS t→TS (Vi m q t).2
 |0,_,_,h=>h
 |m+1,q,t,h=>by
  rw [Vi];split
  ·exact h
  ·rename_i hp;exact LH m _ _ (Rl h hp)
section
variable {q:List Int} {t:List y6} {k:y7} (h:ZX q t=true) (hk:Yz k=true)
include h hk
theorem C2:(Vg q (KE k.1 k.2.1) q.length)=(putAt q k:Int)∧putAt q k<t.length∧putAt q k<q.length:=by obtain ⟨h1,h2,h3,h4⟩:=WU h;have h5:=rD q (KE k.1 k.2.1) (by rw [LG h];exact y2i hk) (q.length - 1);rw [show q.length - 1+1=q.length by omega] at h5;have h6:=BW q (KE k.1 k.2.1) q.length;unfold putAt;omega
theorem mW:Z2 (t.getD (putAt q k) y_)=true:=by have h1:=(C2 h hk).2.1;rw [hU _ _ _ h1];exact (WU h).2.2.2 _ (uN _)
theorem Rm (hm:(Z8 (t.getD (putAt q k) y_) k).2=false):c7 (wR (t.getD (putAt q k) y_) k)<(wR (t.getD (putAt q k) y_) k).length∧(wR (t.getD (putAt q k) y_) k).length≤9:=by have h1:=y2j (mW h hk) hk hm;have h2:=ta (t.getD (putAt q k) y_) k;have h3:=Qr (t.getD (putAt q k) y_);have h4:=(JV (mW h hk)).2.1;unfold c7;omega
theorem Nq:TS (zO q t k).2∧(zO q t k).1.length=(zO q t k).2.length:=by
 obtain ⟨h1,h2,h3,h4⟩:=WU h;obtain ⟨g0,g1,g2⟩:=C2 h hk;have hT:=mV h;have hn:=JV (mW h hk);unfold zO;split
 ·rename_i hm;have hh:=Rm h hk hm;refine ⟨hT.splice (by rw [We _ _ _ _ (by omega)];simp only [yp,yr];omega) fun n hn=> ?_,by rw [We _ _ _ _ (by omega),We _ _ _ _ (by omega)];simp only [yp,yr];omega⟩;simp only [yR,aJ,Vr] at hn;rcases hn with rfl|rfl
  ·exact dG (by rw [Za];omega)
  ·exact dG (by rw [wU];omega)
 ·split
  ·refine ⟨hT.splice (by rw [We _ _ _ _ (by omega)];simp only [yr];omega) (fun n hn=>by cases hn),by rw [We _ _ _ _ (by omega),We _ _ _ _ (by omega)];simp only [yr];omega⟩
  ·refine ⟨⟨by simp only [Yt];omega,fun n hn2=>(Vo hn2).elim (hT.node n) fun e=>e ▸ C1 k (tb (mW h hk)) (by omega)⟩,by simp only [Yt];omega⟩
end
theorem Ji (q:List Int) (t:List y6) (a b c d e:Int) (hT:Jl t) (hQ: ∀ n∈t,Bj n) (hq:q.length≤1048576):YY (q,t,a,b,c,d,e)=some (zg q t (a,b,c,d,e)):=by
 unfold YY zg nz;simp only [dB q t hq hT.len hQ,dD q t hT,af,zzal0];cases h:ZX q t with
 |false=>rfl
 |true=>
  cases hk:Yz (a,b,c,d,e) with
  |false=>rfl
  |true=>
   obtain ⟨h1,h2,h3,h4⟩:=WU h;obtain ⟨g0,g1,g2⟩:=C2 h hk;have hNS:=tb (mW h hk);have hnf:=JV (mW h hk);have hP:=Nq h hk;have hJ:=LH (zO q t (a,b,c,d,e)).2.length (zO q t (a,b,c,d,e)).1 (zO q t (a,b,c,d,e)).2 hP.1;have ern:yt t (putAt q (a,b,c,d,e):Int)=t.getD (putAt q (a,b,c,d,e)) y_:=by show t.getD ((putAt q (a,b,c,d,e):Int)).toNat y_=_;rw [g8]
   have erq:Y4 q (putAt q (a,b,c,d,e):Int)=q.getD (putAt q (a,b,c,d,e)) 0:=by show q.getD ((putAt q (a,b,c,d,e):Int)).toNat 0=_;rw [g8]
   have hfin: ∀ p:List Int×List y6,p=zO q t (a,b,c,d,e)→(Option.bind (JS (p.1,p.2)) fun r15=>Option.bind (ZC (r15.1,r15.2)) fun r16=>bif (!r16) then some (q,t,false) else some (r15.1,r15.2,true))=some (if ZX (Vi (zO q t (a,b,c,d,e)).2.length (zO q t (a,b,c,d,e)).1 (zO q t (a,b,c,d,e)).2).1 (Vi (zO q t (a,b,c,d,e)).2.length (zO q t (a,b,c,d,e)).1 (zO q t (a,b,c,d,e)).2).2=true then ((Vi (zO q t (a,b,c,d,e)).2.length (zO q t (a,b,c,d,e)).1 (zO q t (a,b,c,d,e)).2).1,(Vi (zO q t (a,b,c,d,e)).2.length (zO q t (a,b,c,d,e)).1 (zO q t (a,b,c,d,e)).2).2,true) else (q,t,false)):=by rintro p rfl;simp only [FE _ _ hP.1 hP.2,zzal0,dD _ _ hJ.ok];cases ZX (Vi (zO q t (a,b,c,d,e)).2.length (zO q t (a,b,c,d,e)).1 (zO q t (a,b,c,d,e)).2).1 (Vi (zO q t (a,b,c,d,e)).2.length (zO q t (a,b,c,d,e)).1 (zO q t (a,b,c,d,e)).2).2<;>rfl
   simp only [yJ,yi,zzal0,lf q t a b hq,show Vg q (KE a b) q.length=(putAt q (a,b,c,d,e):Int) from g0,ern,erq,mv,yo];rw [y0 (by omega),y0 (by omega),lg _ a b c d e hNS];simp only [zzal0];rw [y0 (by omega),y0 (by omega),ff q t _ _ _ (by omega) (by omega) (by omega) (by omega) (by omega) (by simp) (by simp)];simp only [zzal0,g8];cases hm:(Z8 (t.getD (putAt q (a,b,c,d,e)) y_) (a,b,c,d,e)).2 with
   |false=>
    have hh:=Rm h hk hm;have hkn:=(hNS.keys)
    have hsl:=kP (zm (t.getD (putAt q (a,b,c,d,e)) y_)) (a,b,c,d,e);have e1:Z5 (JU (zm (t.getD (putAt q (a,b,c,d,e)) y_)) (a,b,c,d,e))=some (wR (t.getD (putAt q (a,b,c,d,e)) y_) (a,b,c,d,e)):=gQ _ (by omega);have hput:=zO.eq_1 q t (a,b,c,d,e);rw [y0 hm] at hput;generalize hW:wR (t.getD (putAt q (a,b,c,d,e)) y_) (a,b,c,d,e)=W at hh e1 hput;have hwr:Go.IntKind.wrap .i64 (Int.tdiv (Go.IntKind.wrap .i64 (((List.length W:Nat):Int)+(1:Int))) (2:Int))=(c7 W:Int):=by rw [zb (n:=((List.length W:Nat):Int)+1) (by omega) (by omega),Int.tdiv_eq_ediv_of_nonneg (by omega)];unfold c7;rw [zb (by omega) (by omega)];omega
    simp only [Yd,yg,jC _ (YI hNS.len (by decide)) (lw hNS.sum (by decide)),kQ _ a b c d e (show (zm (t.getD (putAt q (a,b,c,d,e)) y_)).length≤1073741824 by omega),e1,zzal0,hwr,g8];rw [y0 (by omega),y0 (by omega),y0 (by omega),y0 (by omega),y0 (by omega),y0 (by omega)];have e2:KK ((yy W (c7 W:Int)).1,(yy W (c7 W:Int)).2.1,(yy W (c7 W:Int)).2.2.1,(yy W (c7 W:Int)).2.2.2.1,(yy W (c7 W:Int)).2.2.2.2)=some (DW (W.getD (c7 W) zx)):=by
     have e3:yy W (c7 W:Int)=W.getD (c7 W) zx:=by show W.getD ((c7 W:Int)).toNat zx=_;rw [g8]
     rw [e3];rfl
    rw [e2];simp only [zzal0];rw [y0 (by omega),y0 (by omega),y0 (by omega),WJ _ (by simp only [wU,Za];omega)];simp only [zzal0];rw [y0 (by omega),y0 (by omega),y0 (by omega),WJ _ (by simp only [wU,Za];omega)];simp only [zzal0];rw [ff q t _ _ _ (by omega) (by omega) (by omega) (by omega) (by omega) (by simp) (by simp)];simp only [zzal0,g8,List.take_length];exact hfin _ hput.symm
   |true=>
    have hP2:=C1 (a,b,c,d,e) hNS (by omega);have hnm: ¬ (Z8 (t.getD (putAt q (a,b,c,d,e)) y_) (a,b,c,d,e)).2=false:=by rw [hm];simp
    simp only [yJ,yi,jC _ (YI hP2.len (by decide)) (lw hP2.sum (by decide)),zzal0];have hput:=zO.eq_1 q t (a,b,c,d,e);rw [y9 hnm] at hput;have h3:(bif decide ((putAt q (a,b,c,d,e):Int)>0) then some (((List.length (zm (Z8 (t.getD (putAt q (a,b,c,d,e)) y_) (a,b,c,d,e)).1):Nat):Int)==0) else some false)=some (decide (0<putAt q (a,b,c,d,e)∧(zm (Z8 (t.getD (putAt q (a,b,c,d,e)) y_) (a,b,c,d,e)).1).length=0)):=by
     by_cases i0:0<putAt q (a,b,c,d,e)
     ·rw [yG (show (putAt q (a,b,c,d,e):Int)>0 by omega),yg];congr 1;by_cases i1:(zm (Z8 (t.getD (putAt q (a,b,c,d,e)) y_) (a,b,c,d,e)).1).length=0
      ·rw [yG ⟨i0,i1⟩];exact vM.2 (by omega)
      ·rw [yX (fun hh=>i1 hh.2)];exact ls.2 (by omega)
     ·rw [yX (show ¬ (putAt q (a,b,c,d,e):Int)>0 by omega),yX (fun hh=>i0 hh.1)];rfl
    rw [h3];simp only [zzal0];by_cases hz:0<putAt q (a,b,c,d,e)∧(zm (Z8 (t.getD (putAt q (a,b,c,d,e)) y_) (a,b,c,d,e)).1).length=0
    ·rw [y0 hz] at hput;rw [yG hz,yg,ff q t _ _ _ (by omega) (by omega) (by omega) (by omega) (by omega) (by simp) (by simp)];simp only [zzal0,g8];exact hfin _ hput.symm
    ·rw [y9 hz] at hput;rw [yX hz,yi];rw [B_ q _ _ (by omega),B_ t _ _ (by omega)];refine hfin (q.set (putAt q (a,b,c,d,e)) (q.getD (putAt q (a,b,c,d,e)) 0),t.set (putAt q (a,b,c,d,e)) (Z8 (t.getD (putAt q (a,b,c,d,e)) y_) (a,b,c,d,e)).1) ?_;rw [hput,hU _ _ _ (by omega),List.set_getElem_self]
def i4 (fr id:Int) (x:yb):yb:=if (x.2==id)=true then (x.1,fr) else x
def yjJ (l:List yb) (i:Nat) (id:Int):List yb:=(l.map (i4 (l.getD i YR).2 id)).eraseIdx i
def rE (l:List yb) (id:Int):List yb×Bool:=if Yr l id<0 then (l,false) else if kh l=true then (yjJ l (Yr l id).toNat id,true) else (l,false)
theorem C3 {A:Type} (p:A→Bool): ∀ (l:List A) (i:Int),Zb p l i= -1∨i≤Zb p l i∧Zb p l i<i+l.length
 |[],_=> .inl rfl
 |a::l,i=>by
  rw [Zb];split
  ·refine .inr ⟨yP _,by simp only [yp];omega⟩
  ·rcases C3 p l (i+1) with h|⟨h1,h2⟩
   ·exact .inl h
   ·exact .inr ⟨by omega,by simp only [yp];omega⟩
theorem C4 (l:List yb) (id:Int) (hl:l.length≤1048576):KS (l,id)=some (rE l id):=by
 unfold KS rE nz;simp only [jx l id (by omega),qK l hl,zzal0];by_cases h0:Yr l id<0
 ·rw [yG h0,y0 h0];simp only [yg,zzal0];rw [y0 (by simp only [yr];omega)];rfl
 ·rw [yX h0,y9 h0];cases hA:kh l with
  |false=>simp only [yi,Yd,zzal0,yg];rw [y0 (by simp only [yr];omega)];rfl
  |true=>
   simp only [yi,yJ,zzal0,yo];have hi1:Yr l id<(l.length:Int):=by
    rcases C3 (fun a:yb=>a.1==id) l 0 with h|⟨h1,h2⟩
    ·have:Yr l id= -1:=h;omega
    ·have:Yr l id=Zb (fun a:yb=>a.1==id) l 0:=rfl;omega
   generalize Yr l id=i at h0 hi1;unfold iG;have key:=Ym (step:=vn (fun x4=>some (x4,true))) (fun x:List yb×Int×Int×Int×List yb=>l.length - x.2.2.2.1.toNat) (fun x=>x.1=l∧x.2.1=id∧x.2.2.1=i∧0≤x.2.2.2.1∧x.2.2.2.1≤(l.length:Int)∧x.2.2.2.2.length≤x.2.2.2.1.toNat)
    (fun x=>some (x.2.2.2.2++(if x.2.2.2.1≤i then ((l.drop x.2.2.2.1.toNat).map (i4 (l.getD i.toNat YR).2 id)).eraseIdx (i - x.2.2.2.1).toNat else (l.drop x.2.2.2.1.toNat).map (i4 (l.getD i.toNat YR).2 id)),true)) ?_ (l,id,i,0,[]) ⟨rfl,rfl,rfl,yP _,by simp,by simp⟩ (by simp;omega)
   ·rw [key];simp only [jj];rw [y0 (by omega),Int.sub_zero];rfl
   ·rintro again ⟨l',id',i',j,o⟩ ⟨rfl,rfl,rfl,j0,j1,ho⟩ hag;simp only at j0 j1 ho hl hi1 h0 ⊢;unfold vn nz;by_cases hj:j<(l'.length:Int)
    ·have hw:Go.IntKind.wrap .i64 (j+1)=j+1:=zb (by omega) (by omega);have hd:=ZW YR l' j j0 hj;have e1:(j+1).toNat=j.toNat+1:=by omega
     have hlen: ∀ y:yb,(List.length o+List.length ([y]:List yb))*16<140737488355328:=fun y=>by simp only [yp,yr];omega
     have hstep: ∀ y,y=i4 (l'.getD i'.toNat YR).2 id' (l'.getD j.toNat YR)→(bif (j !=i') then if (List.length o+List.length ([y]:List yb))*16<140737488355328 then again (l',id',i',j+1,o++[y]) else none else again (l',id',i',j+1,o))=some (o++(if j≤i' then ((l'.drop j.toNat).map (i4 (l'.getD i'.toNat YR).2 id')).eraseIdx (i' - j).toNat else (l'.drop j.toNat).map (i4 (l'.getD i'.toNat YR).2 id')),true):=by
      rintro y rfl;rw [hd,J7];by_cases hji:j=i'
      ·rw [show (j !=i')=false by simp [hji],yi,y0 (by omega),show (i' - j).toNat=0 by omega,List.eraseIdx_zero,List.tail_cons];have:=hag (l',id',i',j+1,o) ⟨rfl,rfl,rfl,by simp only;omega,by simp only;omega,by simp only;omega⟩ (by simp only;omega);rw [this];simp only;rw [y9 (by omega)]
      ·rw [show (j !=i')=true by simpa using hji,yg,y0 (hlen _)];have:=hag (l',id',i',j+1,o++[i4 (l'.getD i'.toNat YR).2 id' (l'.getD j.toNat YR)]) ⟨rfl,rfl,rfl,by simp only;omega,by simp only;omega,by simp only [yU,yp,yr];omega⟩ (by simp only;omega);rw [this];simp only;by_cases hlt:j≤i'
       ·rw [y0 hlt,y0 (by omega),show (i' - j).toNat=(i' - (j+1)).toNat+1 by omega,List.eraseIdx_cons_succ,jF];rfl
       ·rw [y9 hlt,y9 (by omega),jF];rfl
     have hrd:yT l' j=l'.getD j.toNat YR:=rfl;simp only [hw];rw [yG hj,yg,y0 j0,y0 hj];by_cases hid:(l'.getD j.toNat YR).2=id'
     ·have hb:((yT l' j).2==id')=true:=vM.2 hid;rw [hb,yg,y0 (by omega),y0 hi1];exact hstep _ (by unfold i4;rw [y0 (vM.2 hid)];rfl)
     ·have hb:((yT l' j).2==id')=false:=ls.2 hid;rw [hb,yi];exact hstep _ (by unfold i4;rw [y9 (by simpa using hid)];rfl)
    ·rw [yX hj,yi,aE (by omega)];simp
def rF (cs:List ya) (i:Int):List ya:=if ZJ cs=true∧0≤i∧i≤23∧(cs.getD i.toNat jo).2.1=true then cs.set i.toNat (Int.tmod (Go.IntKind.wrap .i64 ((cs.getD i.toNat jo).1+1)) 1000,false,0) else cs
theorem mX (cs:List ya) (i:Int):(rF cs i).length=cs.length:=by
 unfold rF;split
 ·simp
 ·rfl
theorem y4V {cs:List ya} (h:ZJ cs=true):cs.length=24:=by unfold ZJ at h;simp only [zzal10,vM] at h;omega
theorem C5 {cs:List ya} {i:Int} (h: ¬ (ZJ cs=true∧0≤i∧i≤23∧(cs.getD i.toNat jo).2.1=true)):rF cs i=cs:=y9 h
theorem Tr {cs:List ya} {i:Int} (h:ZJ cs=true∧0≤i∧i≤23∧(cs.getD i.toNat jo).2.1=true):rF cs i=cs.set i.toNat (Int.tmod (Go.IntKind.wrap .i64 ((cs.getD i.toNat jo).1+1)) 1000,false,0):=y0 h
theorem Kw (cs:List ya) (i:Int) (hc:cs.length≤1048576):Ja (cs,i)=some (rF cs i):=by
 have e1:ju cs=some cs:=by unfold ju nz;rw [y0 (by simp only [yr];omega)];rfl
 unfold Ja nz;simp only [e1,bU cs hc,zK,zzal0];cases hk:ZJ cs with
 |false=>rw [C5 fun h=>by rw [hk] at h;cases h.1];rfl
 |true=>
  have h24:=y4V hk;have hw:Go.IntKind.wrap .i64 ((cs.length:Int) - 1)=23:=by rw [zb (by omega) (by omega)];omega
  simp only [hw,yg,zzal0];cases hi:Yn i 0 23 with
  |false=>
   have: ¬ (0≤i∧i≤23):=fun h=>by rw [zi.2 h] at hi;cases hi
   rw [C5 fun h=>this ⟨h.2.1,h.2.2.1⟩];rfl
  |true=>
   obtain ⟨i0,i1⟩:=zi.1 hi;rw [yg,y0 i0,y0 (by omega)];have hrd:yD cs i=cs.getD i.toNat jo:=rfl;rw [hrd];cases hu:(cs.getD i.toNat jo).2.1 with
   |false=>rw [C5 fun h=>by have:=h.2.2.2;rw [hu] at this;cases this];rfl
   |true=>simp only [zzal0,yg];rw [y0 i0,y0 (by omega),y0 i0,y0 (by omega),Tr ⟨hk,i0,i1,hu⟩]
def Nr (l:List yb) (vs:List yj) (id:Int):Bool:=ue vs id&&((YO l id).length:Int)==1
def JM (q:List Int) (t:List y6) (l:List yb) (vs:List yj) (step:Int) (k:y7):Bool:=
 if step=1 then !Fu t l vs k else if step=2 then (k.2.2.1==2)&& !(FD t l k.1 k.2.1).1 else
  Nr l vs k.2.1&& !(Kv q t k.1 ((YO l k.2.1).getD 0 0)).2.2.2.2.2
theorem y2k (l:List yb) (id:Int): ∀ x∈YO l id,∃ a∈l,a.1=x:=by
 have: ∀ (l:List yb) (s:List Int) (x:Int),x∈l.foldl (dE id) s→x∈s∨ ∃ a∈l,a.1=x:=by
  intro l;induction l with
  |nil=>intro s x h;exact .inl h
  |cons a l ih=>
   intro s x h;rw [Zl] at h;rcases ih _ x h with h|⟨b,hb,e⟩
   ·unfold dE at h;split at h
    ·rcases zB.1 h with h|h
     ·exact .inl h
     ·exact .inr ⟨a,by simp,(by simpa using h:x=a.1).symm⟩
    ·exact .inl h
   ·exact .inr ⟨b,by simp [hb],e⟩
 intro x hx;rcases this l [] x hx with h|h
 ·simp at h
 ·exact h
theorem LI {A:Type} {p:A→Bool}: ∀ (l:List A) (i:Int),zk (fun _ a=>p a) l i=false→ ∀ a∈l,p a=false
 |b::l,i,h,a,ha=>by
  rw [zk,WW] at h;rcases yR.1 ha with rfl|ha
  ·exact h.1
  ·exact LI l (i+1) h.2 a ha
theorem y2l {l:List yb} (h:kh l=true): ∀ a∈l,1≤a.1:=by unfold kh u7 at h;simp only [zzal10,zzal45] at h;have h1:=h.1;rw [Fm,WW] at h1;intro a ha;have:=LI (p:=fun a:yb=> !Yn a.1 1 60) l 0 h1.1 a ha;simp only [eR] at this;exact (zi.1 this).1
section
variable (q:List Int) (t:List y6) (l:List yb) (cs:List ya) (vs:List yj) (z:Int)
theorem uy (ht:Jl t) (hq:q.length≤1048576) (hl:l.length≤1048576) (hv:vs.length≤1048576) (hpos: ∀ a∈l,1≤a.1) (step:Int) (k1 k2 k3 k4 k5:Int):QE (q,t,l,cs,vs,z,step,k1,k2,k3,k4,k5)=some (JM q t l vs step (k1,k2,k3,k4,k5)):=by
 unfold QE JM nz;simp only [yl,vM,rr q t l cs vs z k1 k2 k3 k4 k5 ht hl hv,nJ q t l k1 k2 ht hl,zzal0];by_cases h1:step=1
 ·simp only [h1,yo]
 by_cases h2:step=2
 ·subst h2;simp only [yo,y9 (show ¬ (2:Int)=1 by omega)];by_cases h3:k3=2
  ·have:(k3==2)=true:=by simp [h3]
   rw [this,y0 h3];rfl
  ·have:(k3==2)=false:=by simpa using h3
   rw [this,y9 h3];rfl
 simp only [h1,h2,zP];unfold dc JT Nr nz;simp only [qL l k2 hl,hZ q t l cs vs z k2 hv,zzal0];cases ue vs k2
 ·rfl
 by_cases hk:((YO l k2).length:Int)=1
 ·have g1:(((YO l k2).length:Int) !=1)=false:=by simp [hk]
  have g2:(((YO l k2).length:Int)==1)=true:=by simp [hk]
  have hlt:(0:Int)<((YO l k2).length:Int):=by omega
  have hne:((YO l k2).getD 0 0==0)=false:=by have hm:(YO l k2).getD 0 0∈YO l k2:=zz 0 (YO l k2) 0 (yP _) hlt;obtain ⟨a,ha,e⟩:=y2k l k2 _ hm;have:=hpos a ha;simp only [ls,ne_eq];omega
  have hx:Y4 (YO l k2) 0=(YO l k2).getD 0 0:=rfl;simp only [g1,g2,hlt,yJ,yi,yg,zzal0,yP,yo,hx,hne,qO q t k1 _ ht hq,jH,mv,uM,jH]
 ·have g1:(((YO l k2).length:Int) !=1)=true:=by simpa using hk
  have g2:(((YO l k2).length:Int)==1)=false:=by simpa using hk
  simp only [g1,g2];rfl
def Rn (id:Int) (_:Int) (k:y7):Bool:=k.2.1==id
def Ts (ks:List y7) (l:List yb) (vs:List yj) (a:yb):Bool:= !zk (Rn a.1) ks 0&&(ue vs a.1&&decide (((YO l a.1).length:Int)≤1))
theorem LJ (ht:Jl t) (hl:l.length≤1048576) (hv:vs.length≤1048576) (a:yb):QG (q,t,l,cs,vs,z,a.1)=some (Ts (zV t) l vs a):=by
 unfold QG iF Ts nz;have hk:=ht.keys;have e:zA (q,t)=some (zV t):=Zw q t (by have:=ht.len;omega) ht.nodes ht.sum;simp only [e,zzal0];generalize zV t=ks at hk;refine (zZ (step:=Ws _ _) (fun i=>(a.1,i,q,t,l,cs,vs,z,ks)) (Rn a.1) (some false) (some (ue vs a.1&&decide (((YO l a.1).length:Int)≤1))) zx ks (by omega) ?_ ?_).trans ?_
 ·intro again i h0 h1;have hw:Go.IntKind.wrap .i64 (i+1)=i+1:=zb (by omega) (by omega);unfold Ws Rn nz;have hx:ks.getD i.toNat zx=yy ks i:=rfl;rw [hx];simp only [yl,ym,h0,h1,yo,hw]
 ·intro again i hi;unfold Ws nz;simp only [yl,ym,y9 hi,hZ q t l cs vs z a.1 hv,qL l a.1 hl,zzal0];cases ue vs a.1<;>rfl
 ·cases zk (Rn a.1) ks 0<;>rfl
def C6 (q:List Int) (t:List y6) (l:List yb) (vs:List yj) (_:Int) (_:Unit) (step:Int):Except (Option (Int×Int)) Unit:=
 if Zb (JM q t l vs step) (zV t) 0<0 then .ok () else .error (some (step,Zb (JM q t l vs step) (zV t) 0))
def rG (t:List y6) (l:List yb) (vs:List yj):Int×Int:=
 if Zb (Ts (zV t) l vs) l 0<0 then (0,0) else (4,Zb (Ts (zV t) l vs) l 0)
def nextK (q:List Int) (t:List y6) (l:List yb) (cs:List ya) (vs:List yj) (z:Int):Option (Int×Int):=
 if zc q t l cs vs z=true then ma (C6 q t l vs) (fun _=>some (rG t l vs)) ([1,2,3]:List Int) 0 () else some (0,0)
theorem three (i:Int) (h0:0≤i) (h1:i<3):([1,2,3]:List Int).getD i.toNat 0=i+1:=by
 have:i=0∨i=1∨i=2:=by omega
 rcases this with rfl|rfl|rfl<;>rfl
theorem FF (ht:Jl t) (hq:q.length≤1048576) (hl:l.length≤1048576) (hc:cs.length≤1048576) (hv:vs.length≤1048576) (T8: ∀ v∈vs,ByteArray.size v.1≤maxLen):vk (q,t,l,cs,vs,z)=nextK q t l cs vs z:=by
 unfold vk nextK nz;have hk:=ht.keys;have e:zA (q,t)=some (zV t):=Zw q t (by have:=ht.len;omega) ht.nodes ht.sum;simp only [kT q t l cs vs z ht hl hc hv T8,e,zzal0];cases hp:zc q t l cs vs z
 ·rfl
 have hpos: ∀ a∈l,1≤a.1:=by refine y2l ?_;unfold zc at hp;simp only [zzal10] at hp;exact hp.2.1
 simp only [yJ,yi,yo];unfold ek;refine DP (step:=Jq _ _) (fun i (_:Unit)=>(i+1,q,t,l,cs,vs,z,zV t)) (C6 q t l vs) (fun _=>some (rG t l vs)) 0 ([1,2,3]:List Int) (by decide) (fun _ _=>True) (fun again i s h0 h1 _=>⟨?_,fun _ _=>trivial⟩) ?_ () trivial
 ·have h1':i<3:=h1;rw [three i h0 h1'];have hw:Go.IntKind.wrap .i64 (i+1+1)=i+1+1:=zb (by omega) (by omega);unfold Jq C6 nz;have hle:i+1≤3:=by omega
  simp only [yl,ym,hle,yo];unfold ej;refine (Kr (step:=Jp _ _) (fun j=>(i+1,j,q,t,l,cs,vs,z,zV t)) (JM q t l vs (i+1)) (fun j=>some (i+1,j)) (again (i+1+1,q,t,l,cs,vs,z,zV t)) zx (zV t) (by omega) ?_ ?_).trans ?_
  ·intro again' j j0 j1;have hwj:Go.IntKind.wrap .i64 (j+1)=j+1:=zb (by omega) (by omega);unfold Jp nz;obtain ⟨⟨x1,x2,x3,x4,x5⟩,hx⟩: ∃ x,yy (zV t) j=x:=⟨_,rfl⟩
   have hx':(zV t).getD j.toNat zx=(x1,x2,x3,x4,x5):=hx;rw [hx'];simp only [yl,ym,j0,j1,yo,hwj,hx,uy q t l cs vs z ht hq hl hv hpos (i+1) x1 x2 x3 x4 x5,zzal0]
  ·intro again' j hj;unfold Jp nz;simp only [yl,ym,y9 hj,hw]
  ·split<;>rfl
 ·intro again i s hi;have hi': ¬ i<3:=hi;have hle: ¬ i+1≤3:=by omega
  unfold Jq nz;simp only [yl,ym,y9 hle];unfold de rG;refine (Kr (step:=jU _ _) (fun j=>(j,q,t,l,cs,vs,z)) (Ts (zV t) l vs) (fun j=>some (4,j)) (some (0,0)) YR l (by omega) ?_ ?_).trans ?_
  ·intro again' j j0 j1;have hwj:Go.IntKind.wrap .i64 (j+1)=j+1:=zb (by omega) (by omega);unfold jU nz;have hx:l.getD j.toNat YR=yT l j:=rfl;rw [hx];simp only [yl,ym,j0,j1,yo,hwj,LJ q t l cs vs z ht hl hv (yT l j),zzal0]
  ·intro again' j hj;unfold jU nz;simp only [yl,ym,y9 hj]
  ·split<;>rfl
theorem E8 {S A R:Type} (g:Int→S→A→Except (Option R) S) (k:S→Option R) (hg: ∀ i s a r,g i s a= .error r→ ∃ x,r=some x) (hk: ∀ s,∃ x,k s=some x): ∀ (l:List A) (i:Int) (s:S),∃ x,ma g k l i s=some x
 |[],i,s=>hk s
 |a::l,i,s=>by
  rw [ma];cases h:g i s a with
  |error r=>exact hg i s a r h
  |ok s'=>exact E8 g k hg hk l (i+1) s'
theorem Ns: ∃ r,nextK q t l cs vs z=some r:=by
 unfold nextK;split
 ·refine E8 _ _ (fun i s a r h=> ?_) (fun s=>⟨_,rfl⟩) _ _ _;unfold C6 at h;split at h
  ·cases h
  ·injection h with h;exact ⟨_,h.symm⟩
 ·exact ⟨_,rfl⟩
end
end Go.Proofs.YtekbnpmmjciloaaGreat.Pl
