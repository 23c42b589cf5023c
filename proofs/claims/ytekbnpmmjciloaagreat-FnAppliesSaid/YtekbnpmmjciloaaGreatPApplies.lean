/- Draw, Crc, ReadW, Four, Crc1, Draw2, Put4, Txt, PutPool, Ops, Apply, Apply2, Take, Do1, Do2, MapK, MapA, Do3, Apply3, EntDraw, DrawP, DrawQ, Same, Do4, Move, Move2, Applies. No condition. -/
import Derived.Test.YtekbnpmmjciloaaGreatPPrune2
set_option linter.all false
namespace Go.Proofs.YtekbnpmmjciloaaGreat.Pl
open Go.Proofs.YtekbnpmmjciloaaGreat.R Go.Proofs.YtekbnpmmjciloaaGreat.XA
def YQ (c:List Int) (p:Int):Prop:=c.length≤1099511627776∧0≤p∧p≤c.length
def jP {A:Type} (o:Option (A×List Int×Int×Int)) (c:List Int) (Q:A→Prop):Prop:= ∃ v p s,o=some (v,c,p,s)∧YQ c p∧Q v
theorem yfX (c:List Int) (p s:Int) (h:YQ c p):jP (jo (c,p,s)) c (fun v=>0≤v∧v<256):=by
 obtain ⟨h1,h2,h3⟩:=h
 unfold jo nz
 simp only [ae,ac,yDi]
 by_cases hp:p<(c.length:Int)
 ·rw [af hp,af h2,af hp]
  refine ⟨_,_,_,rfl,⟨h1,?_,?_⟩,by omega⟩
  ·rw [w64 (by omega) (by omega)]
   omega
  ·rw [w64 (by omega) (by omega)]
   omega
 ·rw [am hp]
  exact ⟨_,_,_,rfl,⟨h1,h2,h3⟩,by omega⟩
theorem zt (c:List Int) (p s n:Int) (h:YQ c p):jP (yb (c,p,s,n)) c (fun v=>0≤v∧(0<n→v<n)):=by
 unfold yb nz
 simp only [ae,ac]
 by_cases hn:n≤0
 ·rw [af hn]
  exact ⟨_,_,_,rfl,h,aH _,fun hh=>by omega⟩
 ·rw [am hn]
  obtain ⟨v1,p1,s1,e1,h1,q1⟩:=yfX c p s h
  obtain ⟨v2,p2,s2,e2,h2,q2⟩:=yfX c p1 s1 h1
  obtain ⟨v3,p3,s3,e3,h3,q3⟩:=yfX c p2 s2 h2
  rw [e1]
  simp only [aa]
  have mod: ∀ v:Int,0≤v→0≤Int.tmod v n∧(0<n→Int.tmod v n<n):=fun v hv=>by
   rw [Int.tmod_eq_emod_of_nonneg hv]
   exact ⟨Int.emod_nonneg _ (by omega),fun hh=>Int.emod_lt_of_pos _ hh⟩
  by_cases h6:n≤256
  ·rw [af h6,am (by omega)]
   exact ⟨_,_,_,rfl,h1,mod _ q1.1⟩
  ·rw [am h6,e2]
   simp only [aa]
   rw [e3]
   simp only [aa]
   rw [am (by omega)]
   rw [w64 (n:=v1*65536) (by omega) (by omega),w64 (n:=v2*256) (by omega) (by omega),w64 (n:=v1*65536+v2*256) (by omega) (by omega),w64 (n:=v1*65536+v2*256+v3) (by omega) (by omega)]
   exact ⟨_,_,_,rfl,h3,mod _ (by omega)⟩
theorem WX (c:List Int) (p s:Int) (L:List Int) (hL:0<L.length) (hL2:L.length≤1048576) (h:YQ c p):jP (yz (c,p,s,L)) c (fun v=>v∈L):=by
 obtain ⟨v,p1,s1,e1,h1,q1⟩:=zt c p s (L.length:Int) h
 have:=q1.2 (by omega)
 unfold yz nz
 rw [e1]
 simp only [aa]
 rw [af q1.1,af this]
 exact ⟨_,_,_,rfl,h1,z5 y2d L v q1.1 this⟩
theorem ypd (c:List Int) (hc:c.length≤1099511627776): ∃ s,K0 c=some (c,0,s):=by
 have key:=Yc (step:=Vz (fun x2:List Int×Int=>some (x2.1,(0:Int),x2.2))) (fun t:List Int×Int×Int=>c.length - t.2.2.toNat) (fun t=>t.1=c∧0≤t.2.2∧t.2.2≤c.length) (fun _ res=> ∃ s,res=some (c,0,s)) ?_ (c,(Go.IntKind.wrap .i64 ((941941:Int)+((List.length c:Nat):Int))),(0:Int)) ⟨rfl,aH _,by simp⟩ (by simp;omega)
 ·exact key
 ·rintro again ⟨c',s,i⟩ ⟨rfl,h0,h1⟩ hag
  simp only at h0 h1
  unfold Vz nz
  simp only [ae,ac]
  by_cases hi:i<(c'.length:Int)
  ·rw [af hi]
   simp only [aa,ac]
   by_cases h4:i<4000
   ·rw [af h4,af h0,af hi]
    have hw:Go.IntKind.wrap .i64 (i+1)=i+1:=w64 (by omega) (by omega)
    rw [hw]
    exact hag _ ⟨rfl,by simp only;omega,by simp only;omega⟩ (by simp only;omega)
   ·rw [am h4]
    exact ⟨_,rfl⟩
  ·rw [am hi]
   exact ⟨_,rfl⟩
end Go.Proofs.YtekbnpmmjciloaaGreat.Pl
namespace Go.Proofs.YtekbnpmmjciloaaGreat.Pl
open Go.Proofs.YtekbnpmmjciloaaGreat.R Go.Proofs.YtekbnpmmjciloaaGreat.XA
theorem yJF (l:List Int) (i:Int):ylK l i=by_ l i:=rfl
theorem yDk {l:List Int} (h:ycc l) (i:Int):Go.IntKind.wrap .i64 (by_ l i)=by_ l i:=by
 have:=yh5 h i
 exact w64 (by omega) (by omega)
end Go.Proofs.YtekbnpmmjciloaaGreat.Pl
namespace Go.Proofs.YtekbnpmmjciloaaGreat.Pl
open Go.Proofs.YtekbnpmmjciloaaGreat.R Go.Proofs.YtekbnpmmjciloaaGreat.XA
def w2 (l:List Int) (i:Int):Int:=by_ l i*256+by_ l (i+1)
end Go.Proofs.YtekbnpmmjciloaaGreat.Pl
namespace Go.Proofs.YtekbnpmmjciloaaGreat.Pl
open Go.Proofs.YtekbnpmmjciloaaGreat.R Go.Proofs.YtekbnpmmjciloaaGreat.XA
end Go.Proofs.YtekbnpmmjciloaaGreat.Pl
namespace Go.Proofs.YtekbnpmmjciloaaGreat.Pl
open Go.Proofs.YtekbnpmmjciloaaGreat.R Go.Proofs.YtekbnpmmjciloaaGreat.XA
end Go.Proofs.YtekbnpmmjciloaaGreat.Pl
namespace Go.Proofs.YtekbnpmmjciloaaGreat.Pl
open Go.Proofs.YtekbnpmmjciloaaGreat.R Go.Proofs.YtekbnpmmjciloaaGreat.XA
theorem yJG (x:List Int) (hx:x.length≤1099511627776):YQ x 0:=⟨hx,aH _,by omega⟩
theorem yJH (x:List Int) (i:Int) (hb:ycc x) (hx:x.length≤1048576) (h0:0≤i) (h1:i≤1000): ∃ v,y2g (x,i)=some v∧0≤v:=by
 unfold y2g nz
 simp only [ae,ac]
 by_cases h:i<(x.length:Int)
 ·rw [af h,af h0,af h,yJF,yDk hb]
  exact ⟨_,rfl,(yh5 hb i).1⟩
 ·rw [am h,w64 (n:=i*31) (by omega) (by omega),w64 (n:=(x.length:Int)*7) (by omega) (by omega),w64 (n:=i*31+(x.length:Int)*7) (by omega) (by omega),Int.tmod_eq_emod_of_nonneg (by omega)]
  exact ⟨_,rfl,by omega⟩
end Go.Proofs.YtekbnpmmjciloaaGreat.Pl
namespace Go.Proofs.YtekbnpmmjciloaaGreat.Pl
open Go.Proofs.YtekbnpmmjciloaaGreat.R Go.Proofs.YtekbnpmmjciloaaGreat.XA
def two (x:Int):List Int:=[x / 256 % 256,x % 256]
end Go.Proofs.YtekbnpmmjciloaaGreat.Pl
namespace Go.Proofs.YtekbnpmmjciloaaGreat.Pl
open Go.Proofs.YtekbnpmmjciloaaGreat.R Go.Proofs.YtekbnpmmjciloaaGreat.XA
def tx (s:ByteArray):List Int:=two (s.size:Int)++QZ s
end Go.Proofs.YtekbnpmmjciloaaGreat.Pl
namespace Go.Proofs.YtekbnpmmjciloaaGreat.Pl
open Go.Proofs.YtekbnpmmjciloaaGreat.R Go.Proofs.YtekbnpmmjciloaaGreat.XA
structure PoolF (q:List Int) (t:List y0) (l:List y7) (cs:List y6) (vs:List yf):Prop where
 ql:q.length=t.length
 tl:t.length≤20
 ll:l.length≤16
 cl:cs.length=24
 vl:vs.length≤6
 nm: ∀ v∈vs,ByteArray.size v.1≤6
 nl: ∀ n∈t,List.length n≤3
 sl: ∀ n∈t,∀ s∈(show List ya from n),List.length s≤60∧ ∀ k∈(show List y8 from s),WW k=true
theorem yJI {q:List Int} {t:List y0} {l:List y7} {cs:List y6} {vs:List yf} {z:Int} (h:yK q t l cs vs z=true):PoolF q t l cs vs:=by
 unfold yK at h
 simp only [al] at h
 obtain ⟨h1,h2,h3,_,_,h4,_⟩:=h
 obtain ⟨t1,t2,t3,t4⟩:=kF h1
 unfold wD at h2
 unfold Yb at h3
 unfold vF at h4
 simp only [al,bd,ac,bJ] at h2 h3 h4
 refine ⟨t1,t3,by omega,by omega,by omega,fun v hv=> ?_,fun n hn=>(y88 (t4 n hn)).1,fun n hn s hs=>yck ((y88 (t4 n hn)).2 s hs)⟩
 obtain ⟨j,hj⟩:=y4j _ vs 0 h4.1 v hv
 unfold ykx at hj
 simp only [aL,bc] at hj
 have hn:=hj.1
 unfold Z4 at hn
 simp only [al,zX] at hn
 omega
section
variable {q:List Int} {t:List y0} {l:List y7} {cs:List y6} {vs:List yf} (z:Int) (h:PoolF q t l cs vs)
include h
end
end Go.Proofs.YtekbnpmmjciloaaGreat.Pl
namespace Go.Proofs.YtekbnpmmjciloaaGreat.Pl
open Go.Proofs.YtekbnpmmjciloaaGreat.R Go.Proofs.YtekbnpmmjciloaaGreat.XA
def yeA (kind a b:Int):Bool:=
 if kind=2 then decide (a=0)&&inR b 0 1 else if kind=3∨kind=7 then decide (a=0)&&decide (b=0) else if kind=4 then true else decide (b=0)
def yhi (s:ByteArray):Bool:=s.toList==([]:List UInt8)
def ype (kind:Int) (name tt:ByteArray) (a b:Int):Bool:=
 inR kind 1 9&&(if kind≥7 then yhi name else Z4 name)&&(if kind=2 then Z4 tt else yhi tt)&&isW a&&isW b&&yeA kind a b
theorem y8j (kind:Int) (name tt:ByteArray) (a b:Int):ZI (kind,name,tt,a,b)=some (yeA kind a b):=by
 unfold ZI yeA nz
 simp only [ae,YP,aa,bJ]
 by_cases h2:kind=2<;>by_cases h3:kind=3<;>by_cases h7:kind=7<;>by_cases h4:kind=4<;>by_cases ha:a=0<;>by_cases hb:b=0<;>simp_all
theorem y6f:(ByteArray.toList {data:= #[]})=[]:=by
 unfold ByteArray.toList ByteArray.toList.loop
 rfl
theorem y39 (kind:Int) (name tt:ByteArray) (a b:Int) (hn:name.size≤maxLen) (ht:tt.size≤maxLen):V0 (kind,name,tt,a,b)=some (ype kind name tt a b):=by
 unfold V0 ype yhi nz
 simp only [ae,Y5 _ hn,Y5 _ ht,YP,qb,y8j,aa,bi,y6f,ac]
 generalize (name.toList==([]:List UInt8))=n1
 generalize (tt.toList==([]:List UInt8))=n2
 generalize inR kind 1 9=n3
 generalize yeA kind a b=n4
 by_cases h7:kind≥7<;>by_cases h2:kind=2<;>simp only [h7,h2,aB,aU,aa]<;>cases n1<;>cases n2<;>cases n3<;>cases n4<;>cases Z4 name<;>cases Z4 tt<;>cases isW a<;>cases isW b<;>rfl
theorem y6g (kind:Int) (name tt:ByteArray) (a b:Int) (hn:name.size≤maxLen) (ht:tt.size≤maxLen):Vg (kind,name,tt,a,b)=some (ype kind name tt a b):=by
 unfold Vg nz
 simp only [ae,zH _ hn,zH _ ht,Yd,y2Z,aa,bi,y6f,ac]
 unfold ype yhi
 generalize (name.toList==([]:List UInt8))=n1
 generalize (tt.toList==([]:List UInt8))=n2
 cases hwb:isW b with
 |false=>cases inR kind 1 9<;>cases isW a<;>simp
 |true=>
  obtain ⟨hb0,hb1⟩:=zX.1 hwb
  have hb:inR b 0 1=(decide (b≤1)):=by simp [inR,hb0]
  unfold yeA
  rw [hb]
  generalize Z4 name=n3
  generalize Z4 tt=n4
  generalize isW a=n5
  generalize inR kind 1 9=n6
  have ea:(a==0)=decide (a=0):=rfl
  have eb:(b==0)=decide (b=0):=rfl
  by_cases h7:kind≥7
  ·have h6: ¬ kind≤6:=by omega
   have h2: ¬ kind=2:=by omega
   have h3: ¬ kind=3:=by omega
   have h4: ¬ kind=4:=by omega
   simp only [am h6,af h7,am h2,am h3,am h4,h3,ea,eb,false_or,ac]
   by_cases h77:kind=7
   ·simp only [af h77]
    by_cases ha:a=0<;>by_cases hb':b=0<;>simp only [ha,hb',aB,aU,decide_true,decide_false]<;>cases n1<;>cases n2<;>cases n5<;>cases n6<;>first|rfl|simp
   ·simp only [am h77]
    by_cases hb':b=0<;>simp only [hb',aB,aU,decide_true,decide_false]<;>cases n1<;>cases n2<;>cases n5<;>cases n6<;>first|rfl|simp
  ·have h6:kind≤6:=by omega
   have h77: ¬ kind=7:=by omega
   by_cases h2:kind=2<;>by_cases h3:kind=3<;>by_cases h4:kind=4<;>simp only [h7,h6,h2,h3,h4,h77,ea,eb,aB,aU,or_true,or_false,ac]<;>first|(exfalso;omega)|skip
   all_goals by_cases ha:a=0<;>by_cases hb':b=0<;>simp only [ha,hb',aB,aU,decide_true,decide_false]<;>cases n1<;>cases n2<;>cases n3<;>cases n4<;>cases n5<;>cases n6<;>first|rfl|simp
end Go.Proofs.YtekbnpmmjciloaaGreat.Pl
namespace Go.Proofs.YtekbnpmmjciloaaGreat.Pl
open Go.Proofs.YtekbnpmmjciloaaGreat.R Go.Proofs.YtekbnpmmjciloaaGreat.XA
abbrev P7a:Type:=List y9×List y0×List y7×List y6×List yf×Int×Int
theorem yhj {A:Type} {o:Option A}:(Option.bind o fun r=>some r)=o:=by cases o<;>rfl
theorem yty {o:Option P7a}:(Option.bind o fun r=>some (r.1,r.2.1,r.2.2.1,r.2.2.2.1,r.2.2.2.2.1,r.2.2.2.2.2.1,r.2.2.2.2.2.2))=o:=by cases o<;>rfl
theorem yJJ {o:Option (List y9×List y0×List y7×List y6×List yf×Int×Bool)}:(Option.bind o fun r=>some (r.1,r.2.1,r.2.2.1,r.2.2.2.1,r.2.2.2.2.1,r.2.2.2.2.2.1,r.2.2.2.2.2.2))=o:=by cases o<;>rfl
theorem yJK {o:Option (Bool×List y9×List y0×List y7×List y6×List yf×Int)}:(Option.bind o fun r=>some (r.1,r.2.1,r.2.2.1,r.2.2.2.1,r.2.2.2.2.1,r.2.2.2.2.2.1,r.2.2.2.2.2.2))=o:=by cases o<;>rfl
theorem Jv {A:Type} {P:A→Prop} (b:Bool) {x y:A} (hx:b=true→P x) (hy:b=false→P y):P (bif b then x else y):=by cases b<;>first|exact hx rfl|exact hy rfl
structure Tn (q:List y9) (t:List y0) (l:List y7) (cs:List y6) (vs:List yf):Prop where
 ql:q.length≤100
 T:TS t
 ll:l.length≤100
 cl:cs.length=24
 vl:vs.length≤100
 N: ∀ v∈vs,ByteArray.size v.1≤60
 e:q.length=t.length
 p:0<t.length
theorem Tn.sp {q:List y9} {t:List y0} {l:List y7} {cs:List y6} {vs:List yf} (h:Tn q t l cs vs):SP q t l cs vs:=by
 have hT:=h.T.ok
 refine ⟨⟨aO h.ql (by decide),hT.len,hT.sum,aO h.ll (by decide),by rw [h.cl];decide,aO h.vl (by decide)⟩,fun v hv=>aO (h.N v hv) (by decide)⟩
theorem y0B {q:List y9} {t:List y0} {l:List y7} {cs:List y6} {vs:List yf} {z:Int} (h:yK q t l cs vs z=true):Tn q t l cs vs:=by
 have hF:=yJI h
 unfold yK at h
 rw [al] at h
 have h1:=kF h.1
 exact ⟨by have:=hF.ql;have:=hF.tl;omega,y1a h.1,by have:=hF.ll;omega,hF.cl,by have:=hF.vl;omega,fun v hv=>by have:=hF.nm v hv;omega,hF.ql,by omega⟩
def Res (q:List y9) (t:List y0) (l:List y7) (cs:List y6) (vs:List yf) (z:Int) (o:Option P7a):Prop:=
 ∃ q' t' l' cs' vs' z' c,o=some (q',t',l',cs',vs',z',c)∧(yK q' t' l' cs' vs' z'=true∨(q',t',l',cs',vs',z')=(q,t,l,cs,vs,z))
def yR (vs:List yf) (n:ByteArray):Int:=YD (fun v:yf=>ByteArray.toList v.1==ByteArray.toList n) vs 0
theorem Jw (vs:List yf) (n:ByteArray):yR vs n= -1∨(0≤yR vs n∧yR vs n<vs.length):=by
 rcases Js (fun v:yf=>ByteArray.toList v.1==ByteArray.toList n) Yu vs 0 (aH _) with h|⟨h1,h2,h3⟩
 ·exact .inl h
 ·exact .inr ⟨h1,by simpa [yR] using h2⟩
section
variable (q:List y9) (t:List y0) (l:List y7) (cs:List y6) (vs:List yf) (z:Int)
theorem zW (n:ByteArray) (hv:vs.length≤1048576):zJ (q,t,l,cs,vs,z,n)=some (yR vs n):=by
 unfold zJ y3J nz
 refine (Yr (step:=kg _ _) (fun i=>(n,i,q,t,l,cs,vs,z)) (fun v:yf=>ByteArray.toList v.1==ByteArray.toList n) (fun x=>some x) (some (-1)) Yu vs (by omega) ?_ ?_).trans ?_
 ·intro again i h0 h1
  have hw:Go.IntKind.wrap .i64 (i+1)=i+1:=w64 (by omega) (by omega)
  unfold kg nz
  simp only [ae,ac,h0,h1,aB,hw]
  rfl
 ·intro again i hi
  unfold kg nz
  simp only [ae,ac,am hi]
 ·rcases Jw vs n with h|⟨h1,h2⟩<;>unfold yR at*
  ·rw [h]
   rfl
  ·rw [am (by omega)]
def yeB (n:ByteArray):Int:=if yK q t l cs vs z=true∧Z4 n=true then 0 else 1
noncomputable def yDl (n:ByteArray):Int:=if yK q t l cs vs z=true∧Z4 n=true then (if yR vs n<0 then 2 else 0) else 1
noncomputable def jW (n:ByteArray) (b:Int):Int:=if yK q t l cs vs z=true∧Z4 n=true then (if yR vs n<0 then 2 else if (yd vs (yR vs n)).2.2.2=true then 5 else if inR b 0 (Go.IntKind.wrap .i64 ((yd vs (yR vs n)).2.2.1 - 1))=true then 0 else 4) else 1
variable {q t l cs vs} (h:SP q t l cs vs)
include h
theorem qd (n:ByteArray) (hn:n.size≤maxLen):jS (q,t,l,cs,vs,z,n)=some (yeB q t l cs vs z n):=by
 unfold jS yeB nz
 simp only [Ys z h,Y5 n hn,aa]
 cases yK q t l cs vs z<;>cases Z4 n<;>rfl
theorem y4m (n:ByteArray) (hn:n.size≤maxLen):WC (q,t,l,cs,vs,z,n)=some (yDl q t l cs vs z n):=by
 unfold WC yDl nz
 simp only [qd z h n hn,zW q t l cs vs z n h.S.2.2.2.2.2,aa]
 unfold yeB
 by_cases hc:yK q t l cs vs z=true∧Z4 n=true
 ·simp only [af hc,bV,ai,aa]
  by_cases hv:yR vs n<0
  ·simp only [af hv,ax hv]
   rfl
  ·simp only [am hv,aw hv]
   rfl
 ·simp only [am hc]
  rfl
theorem WU (n:ByteArray) (hn:n.size≤maxLen) (b:Int):ZS (q,t,l,cs,vs,z,n,b)=some (jW q t l cs vs z n b):=by
 unfold ZS jW nz
 simp only [y4m z h n hn,zW q t l cs vs z n h.S.2.2.2.2.2,YP,aa]
 unfold yDl
 by_cases hc:yK q t l cs vs z=true∧Z4 n=true
 ·simp only [af hc]
  by_cases hv:yR vs n<0
  ·simp only [af hv]
   rfl
  ·have h2:=Jw vs n
   simp only [am hv,show ((0:Int) !=0)=false from rfl,ag,af (show (0:Int)≤yR vs n by omega),af (show yR vs n<((List.length vs:Nat):Int) by omega)]
   cases (yd vs (yR vs n)).2.2.2 with
   |true=>rfl
   |false=>cases inR b 0 (Go.IntKind.wrap .i64 ((yd vs (yR vs n)).2.2.1 - 1))<;>rfl
 ·simp only [am hc]
  rfl
theorem wF:yo (q,t,l,cs,vs,z)=some (q,t,l,cs,vs,z):=vG q t l cs vs z h.S
omit h in
theorem Res.same (c:Int):Res q t l cs vs z (some (q,t,l,cs,vs,z,c)):=⟨_,_,_,_,_,_,c,rfl,.inr rfl⟩
theorem y6h {q':List y9} {t':List y0} {l':List y7} {cs':List y6} {vs':List yf} {z':Int} (hx:SP q' t' l' cs' vs') (b:Bool):yS (q,t,l,cs,vs,z,q',t',l',cs',vs',z',b)=some (if b=true∧yK q' t' l' cs' vs' z'=true then (q',t',l',cs',vs',z',0) else (q,t,l,cs,vs,z,6)):=by
 unfold yS nz
 simp only [Ys z' hx,wF z h,aa]
 cases b<;>cases hp:yK q' t' l' cs' vs' z'<;>simp
theorem Res.fin {q':List y9} {t':List y0} {l':List y7} {cs':List y6} {vs':List yf} {z':Int} (hx:SP q' t' l' cs' vs') (b:Bool):Res q t l cs vs z (yS (q,t,l,cs,vs,z,q',t',l',cs',vs',z',b)):=by
 rw [y6h z h hx b]
 by_cases hc:b=true∧yK q' t' l' cs' vs' z'=true
 ·rw [af hc]
  exact ⟨_,_,_,_,_,_,_,rfl,.inl hc.2⟩
 ·rw [am hc]
  exact ⟨_,_,_,_,_,_,_,rfl,.inr rfl⟩
end
theorem y5b (l:List y7) (id fr:Int) (hl:l.length≤1000): ∃ l' b,Y7 (l,id,fr)=some (l',b)∧l'.length≤l.length+1:=by
 unfold Y7 Qm nz
 rw [Zg l id (by omega)]
 simp only [aa]
 refine Yc (step:=J3 _) (fun u:wW=>l.length - u.2.2.2.2.1.toNat) (fun u=>u.1=l∧u.2.1=id∧0≤u.2.2.2.2.1∧u.2.2.2.2.1≤l.length∧(u.2.2.2.2.2.length:Int)≤u.2.2.2.2.1+(if u.2.2.2.1=true then 1 else 0)) (fun _ (res:Option (List y7×Bool))=> ∃ (l':List y7) (b:Bool),res=some (l',b)∧l'.length≤l.length+1) ?_ (l,id,fr,decide (Yk l id≥0),0,[]) ⟨rfl,rfl,aH _,by simp,by simp;split<;>omega⟩ (by simp;omega)
 ·rintro again ⟨l1,id1,fr1,d,i,o⟩ ⟨rfl,rfl,h0,h1,ho⟩ hag
  simp only at h0 h1 ho hl hag ⊢
  unfold J3 nz
  simp only [ae,ac]
  by_cases hi:i<(l1.length:Int)
  ·have hw:Go.IntKind.wrap .i64 (i+1)=i+1:=w64 (by omega) (by omega)
   have ho2:o.length≤1001:=by split at ho<;>omega
   simp only [af hi,af h0,hw,ar,ah,aj]
   cases d with
   |true=>
    simp only [ay,aX,aU,aa]
    rw [af (by omega)]
    exact hag _ ⟨rfl,rfl,by simp only;omega,by simp only;omega,by simp at ho ⊢;omega⟩ (by simp only;omega)
   |false=>
    simp only [bf,aB,aa,ac]
    split
    ·rw [af (by omega),af (by omega)]
     exact hag _ ⟨rfl,rfl,by simp only;omega,by simp only;omega,by simp at ho ⊢;omega⟩ (by simp only;omega)
    ·rw [af (by omega)]
     exact hag _ ⟨rfl,rfl,by simp only;omega,by simp only;omega,by simp at ho ⊢;omega⟩ (by simp only;omega)
  ·have ho2:o.length≤1001:=by split at ho<;>omega
   simp only [am hi,ar,ah,aj,Zg l1 id1 (by omega),aa,kE o (by omega),kE (o++[(id1,fr1)]) (by simp;omega)]
   cases d with
   |true=>
    have e1: ∀ u:Bool,∃ (l':List y7) (b:Bool),(if u=true then (if (0+l1.length)*16<140737488355328 then some ([]++l1,false) else none) else some (o,true))=some (l',b)∧l'.length≤l1.length+1:=fun u=>by
     rw [af (show (0+l1.length)*16<140737488355328 by omega)]
     cases u
     ·exact ⟨_,_,rfl,by simp at ho;omega⟩
     ·exact ⟨_,_,rfl,by simp⟩
    simp only [ay,aX,aU]
    by_cases ha:Yk l1 id1≥0
    ·rw [af ha]
     exact e1 true
    ·rw [am ha]
     exact e1 _
   |false=>
    have e1: ∀ u:Bool,∃ (l':List y7) (b:Bool),(if u=true then (if (0+l1.length)*16<140737488355328 then some ([]++l1,false) else none) else some (o++[(id1,fr1)],true))=some (l',b)∧l'.length≤l1.length+1:=fun u=>by
     rw [af (show (0+l1.length)*16<140737488355328 by omega)]
     cases u
     ·exact ⟨_,_,rfl,by simp at ho ⊢;omega⟩
     ·exact ⟨_,_,rfl,by simp⟩
    simp only [bf,aB]
    rw [af (by omega)]
    by_cases ha:Yk l1 id1≥0
    ·rw [af ha]
     exact e1 true
    ·rw [am ha]
     exact e1 _
theorem yeC (vs:List yf) (n:ByteArray) (a s:Int) (f:Bool) (hv:vs.length≤1000) (hN: ∀ v∈vs,ByteArray.size v.1≤60) (hn:n.size≤60): ∃ vs',YT (vs,n,a,s,f)=some vs'∧vs'.length=vs.length+1∧ ∀ v∈vs',ByteArray.size v.1≤60:=by
 unfold YT Kp nz
 simp only [aT,aj,ar,ah]
 rw [af (by omega),af (by omega),w64 (by omega) (by omega)]
 refine Yc (step:=Zp _) (fun u:jt=>u.1.toNat) (fun u=>0≤u.1∧u.1≤vs.length∧u.2.1=n∧u.2.2.2.2.2.length=vs.length+1∧ ∀ v∈u.2.2.2.2.2,ByteArray.size v.1≤60) (fun _ (res:Option (List yf))=> ∃ vs':List yf,res=some vs'∧vs'.length=vs.length+1∧ ∀ v∈vs',ByteArray.size v.1≤60) ?_ (((vs.length+(0+1):Nat):Int) - 1,n,a,s,f,vs++[(n,a,s,f)]) ⟨by simp only;omega,by simp only;omega,rfl,by simp,fun v hv=> ?_⟩ (by simp only;omega)
 ·rintro again ⟨k,n1,a1,s1,f1,o⟩ ⟨h0,h1,rfl,ho,hoN⟩ hag
  simp only at h0 h1 ho hoN hag ⊢
  unfold Zp nz
  simp only [ae,ac]
  by_cases hk:k>0
  ·have hw:Go.IntKind.wrap .i64 (k - 1)=k - 1:=w64 (by omega) (by omega)
   simp only [af hk,hw,af (show (0:Int)≤k - 1 by omega),af (show k - 1<((List.length o:Nat):Int) by omega),af h0,af (show k<((List.length o:Nat):Int) by omega),aa]
   split
   ·refine hag _ ⟨by simp only;omega,by simp only;omega,rfl,by simp only [aG];exact ho,fun v hv=> ?_⟩ (by simp only;omega)
    rcases bg hv with h|rfl
    ·exact hoN v h
    ·exact hoN _ (z5 Yu o (k - 1) (by omega) (by omega))
   ·refine ⟨_,rfl,by rw [aG];exact ho,fun v hv=> ?_⟩
    rcases bg hv with h|rfl
    ·exact hoN v h
    ·exact hn
  ·simp only [am hk,aa,aX,aU,af h0,af (show k<((List.length o:Nat):Int) by omega)]
   refine ⟨_,rfl,by rw [aG];exact ho,fun v hv=> ?_⟩
   rcases bg hv with h|rfl
   ·exact hoN v h
   ·exact hn
 ·rcases aF.1 hv with h|h
  ·exact hN v h
  ·rw [aW.1 h]
   exact hn
theorem y4n (cs:List y6) (n:Int) (hc:cs.length≤1048576): ∃ cs' i b,Yl (cs,n)=some (cs',i,b)∧cs'.length=cs.length∧(b=true→0≤i∧i<cs.length):=by
 unfold Yl YH V5 nz
 simp only [aT,aj]
 rw [af (by omega)]
 simp only [aa]
 refine Yc (step:=Y8 _ _) (fun u:WD=>cs.length - u.2.2.1.toNat) (fun u=>u.1=cs∧0≤u.2.2.1∧u.2.2.1≤cs.length∧u.2.2.2=cs) (fun _ (res:Option (List y6×Int×Bool))=> ∃ (cs':List y6) (i:Int) (b:Bool),res=some (cs',i,b)∧cs'.length=cs.length∧(b=true→0≤i∧i<cs.length)) ?_ (cs,n,0,cs) ⟨rfl,aH _,by simp,rfl⟩ (by simp;omega)
 ·rintro again ⟨l1,n1,i,o⟩ ⟨e1,h0,h1,e2⟩ hag
  simp only at e1 e2 h0 h1 hag ⊢
  subst e1
  subst e2
  unfold Y8 nz
  simp only [ae,ac,Wu o hc,qb,aa]
  by_cases hi:i<(o.length:Int)
  ·have hw:Go.IntKind.wrap .i64 (i+1)=i+1:=w64 (by omega) (by omega)
   simp only [af hi,af h0,hw,aG,aa]
   split
   ·simp only [aa]
    split
    ·split
     ·exact ⟨_,_,_,rfl,by simp,fun _=>⟨h0,hi⟩⟩
     ·exact hag _ ⟨rfl,by simp only;omega,by simp only;omega,rfl⟩ (by simp only;omega)
    ·exact ⟨_,_,_,rfl,rfl,fun h=>by cases h⟩
   ·simp only [aa,aX,aU]
    exact ⟨_,_,_,rfl,rfl,fun h=>by cases h⟩
  ·simp only [am hi,aa,aX,aU]
   exact ⟨_,_,_,rfl,rfl,fun h=>by cases h⟩
end Go.Proofs.YtekbnpmmjciloaaGreat.Pl
namespace Go.Proofs.YtekbnpmmjciloaaGreat.Pl
open Go.Proofs.YtekbnpmmjciloaaGreat.R Go.Proofs.YtekbnpmmjciloaaGreat.XA
theorem SP.of {q:List y9} {t:List y0} {l:List y7} {cs:List y6} {vs:List yf} (h:TQ q t) (hl:l.length≤1048576) (hc:cs.length≤1048576) (hv:vs.length≤1048576) (hN: ∀ v∈vs,ByteArray.size v.1≤maxLen):SP q t l cs vs:=
 ⟨⟨h.q,h.T.len,h.T.sum,hl,hc,hv⟩,hN⟩
theorem kH {n:Nat} (h:n≤60):n≤maxLen:=aO h (by decide)
section
variable {q:List y9} {t:List y0} {l:List y7} {cs:List y6} {vs:List yf} (z:Int) (h:SP q t l cs vs)
include h
theorem ykD (n:ByteArray) (s:Int) (hn:n.size≤60):Res q t l cs vs z (ju (q,t,l,cs,vs,z,n,s)):=by
 unfold ju nz
 simp only [qd z h n (kH hn),wF z h,zW q t l cs vs z n h.S.2.2.2.2.2,YP,aa,yty,yhj]
 refine Jv (P:=Res q t l cs vs z) _ (fun _=>Res.same z _) fun hf=>Jv (P:=Res q t l cs vs z) _ (fun _=>Res.same z _) fun _=>Jv (P:=Res q t l cs vs z) _ (fun _=>Res.same z _) fun _=> ?_
 have hp:yK q t l cs vs z=true:=by
  unfold yeB at hf
  by_cases hc:yK q t l cs vs z=true∧Z4 n=true
  ·exact hc.1
  ·rw [am hc] at hf
   cases hf
 have hT:=y0B hp
 obtain ⟨l',b,e1,h1⟩:=y5b l z 0 (by have:=hT.ll;omega)
 obtain ⟨vs',e2,h2,h3⟩:=yeC vs n z s false (by have:=hT.vl;omega) hT.N hn
 rw [e1]
 simp only [aa]
 rw [e2]
 simp only [aa]
 exact Res.fin z h (SP.of h.tq (by have:=hT.ll;omega) h.S.2.2.2.2.1 (by have:=hT.vl;omega) fun v hv=>kH (h3 v hv)) b
theorem ytz (n m:ByteArray) (f:Bool) (hn:n.size≤60) (hm:m.size≤60):Res q t l cs vs z (wX (q,t,l,cs,vs,z,n,m,f)):=by
 unfold wX nz
 simp only [qd z h n (kH hn),wF z h,zW q t l cs vs z _ h.S.2.2.2.2.2,Y5 m (kH hm),aa,yty,yhj]
 cases hf:yeB q t l cs vs z n !=0 with
 |true=>
  simp only [ai,aa]
  exact Res.same z _
 |false=>
 simp only [ag,aa]
 have hp:yK q t l cs vs z=true:=by
  unfold yeB at hf
  by_cases hc:yK q t l cs vs z=true∧Z4 n=true
  ·exact hc.1
  ·rw [am hc] at hf
   cases hf
 have hT:=y0B hp
 refine Jv (P:=Res q t l cs vs z) _ (fun _=>Res.same z _) fun _=>Jv (P:=Res q t l cs vs z) _ (fun _=>Res.same z _) fun hi=>Jv (P:=Res q t l cs vs z) _ (fun _=>Res.same z _) fun _=> ?_
 have hi':0≤yR vs n∧yR vs n<((List.length vs:Nat):Int):=by
  have:=bR hi
  have:=Jw vs n
  omega
 obtain ⟨l',b,e1,h1⟩:=y5b l z (yd vs (yR vs n)).2.1 (by have:=hT.ll;omega)
 obtain ⟨l2,b2,e2,h2⟩:=y5b l' (Go.IntKind.wrap .i64 (z+1)) (yd vs (yR vs n)).2.1 (by have:=hT.ll;omega)
 obtain ⟨vs',e3,h3,h4⟩:=yeC (vs.set (Int.toNat (yR vs n)) ((yd vs (yR vs n)).1,z,(yd vs (yR vs n)).2.2)) m (Go.IntKind.wrap .i64 (z+1)) (yd vs (yR vs n)).2.2.1 f (by rw [aG];have:=hT.vl;omega) (fun v hv=>by
  rcases bg hv with hv|rfl
  ·exact hT.N v hv
  ·exact hT.N (yd vs (yR vs n)) (z5 Yu vs _ hi'.1 hi'.2)) hm
 simp only [af hi'.1,af hi'.2]
 rw [e1]
 simp only [aa]
 rw [e2]
 simp only [aa]
 rw [e3]
 simp only [aa]
 rw [aG] at h3
 have hS:SP q t l2 cs vs':=SP.of h.tq (by have:=hT.ll;omega) h.S.2.2.2.2.1 (by have:=hT.vl;omega) fun v hv=>kH (h4 v hv)
 cases b<;>simp only [ai,ag,aa]<;>exact Res.fin z h hS _
theorem ytA (n:ByteArray) (hn:n.size≤60):Res q t l cs vs z (wY (q,t,l,cs,vs,z,n)):=by
 unfold wY nz
 simp only [y4m z h n (kH hn),wF z h,zW q t l cs vs z _ h.S.2.2.2.2.2,aa,yty,yhj]
 refine Jv (P:=Res q t l cs vs z) _ (fun _=>Res.same z _) fun hf=> ?_
 have hi:0≤yR vs n∧yR vs n<((List.length vs:Nat):Int):=by
  unfold yDl at hf
  have:=Jw vs n
  by_cases hc:yK q t l cs vs z=true∧Z4 n=true
  ·rw [af hc] at hf
   by_cases hv:yR vs n<0
   ·rw [af hv] at hf
    cases hf
   ·omega
  ·rw [am hc] at hf
   cases hf
 have hv:=h.S.2.2.2.2.2
 have hw:Go.IntKind.wrap .i64 (yR vs n+1)=yR vs n+1:=w64 (by omega) (by omega)
 simp only [hw]
 rw [af (aH _),af hi.1,af (by omega),af (by simp only [aj,aC,ak];omega),af (by omega),af (by omega),af (aH _),af (by simp only [ar,aj,aC,ak];omega)]
 refine Res.fin z h (SP.of h.tq h.S.2.2.2.1 h.S.2.2.2.2.1 (by simp only [ar,aj,aC,ak];omega) fun v hv=> ?_) true
 simp only [aT,aF] at hv
 rcases hv with hv|hv
 ·exact h.N v (a0 (a_ hv))
 ·exact h.N v (a0 (a_ hv))
theorem ykE (a b c d e:Int): ∃ r q' t' cs',zE (q,t,l,cs,vs,z,a,b,c,d,e)=some (r,q',t',l,cs',vs,z)∧SP q' t' l cs' vs:=by
 have hq:=h.tq
 unfold zE nz
 simp only [wA q t a b hq.T hq.q,Zn q t a b c d e hq.T hq.Q hq.q,aa]
 cases (yw q t (a,b,c,d,e)).2.2 with
 |false=>exact ⟨_,_,_,_,rfl,h⟩
 |true=>
  unfold ww nz
  simp only [ay,ag,jk cs _ h.S.2.2.2.2.1]
  have hT:=WT (a,b,c,d,e) hq
  have key: ∀ u:Bool,∃ r q' t' cs',(Option.bind (bif u then Option.bind (some (y6A cs (jV q t a b).2.2.2.1)) fun r2=>some ((yw q t (a,b,c,d,e)).1,(yw q t (a,b,c,d,e)).2.1,l,r2,vs,z) else some ((yw q t (a,b,c,d,e)).1,(yw q t (a,b,c,d,e)).2.1,l,cs,vs,z)) fun r3=>some (true,r3.1,r3.2.1,r3.2.2.1,r3.2.2.2.1,r3.2.2.2.2.1,r3.2.2.2.2.2))=some (r,q',t',l,cs',vs,z)∧SP q' t' l cs' vs:=fun u=>by
   cases u
   ·exact ⟨_,_,_,_,rfl,hT.sp h h.S.2.2.2.1 h.S.2.2.2.2.1⟩
   ·exact ⟨_,_,_,_,rfl,hT.sp h h.S.2.2.2.1 (by rw [y38];exact h.S.2.2.2.2.1)⟩
  cases (jV q t a b).2.2.2.2.2
  ·exact key false
  ·exact key ((jV q t a b).2.2.1==1)
theorem yn7 (n:ByteArray) (b w:Int) (hn:n.size≤60):Res q t l cs vs z (Jx (q,t,l,cs,vs,z,n,b,w)):=by
 obtain ⟨cs',i,u,e1,h1,h2⟩:=y4n cs w h.S.2.2.2.2.1
 have hS:SP q t l cs' vs:=SP.of h.tq h.S.2.2.2.1 (by rw [h1];exact h.S.2.2.2.2.1) h.S.2.2.2.2.2 h.N
 have main:jW q t l cs vs z n b=0→Res q t l cs vs z (bif u then if (0:Int)≤yR vs n then if yR vs n<((List.length vs:Nat):Int) then if (0:Int)≤i then if i<((List.length cs':Nat):Int) then Option.bind (zE (q,t,l,cs',vs,z,b,(yd vs (yR vs n)).2.1,(1:Int),i,(ym cs' i).1)) fun r7=>yS (q,t,l,cs,vs,z,r7.2.1,r7.2.2.1,r7.2.2.2.1,r7.2.2.2.2.1,r7.2.2.2.2.2.1,r7.2.2.2.2.2.2,r7.1) else none else none else none else none else yS (q,t,l,cs,vs,z,q,t,l,cs',vs,z,false)):=by
  intro hb
  have hi:0≤yR vs n∧yR vs n<((List.length vs:Nat):Int):=by
   unfold jW at hb
   have:=Jw vs n
   by_cases hc:yK q t l cs vs z=true∧Z4 n=true
   ·rw [af hc] at hb
    by_cases hv:yR vs n<0
    ·rw [af hv] at hb
     cases hb
    ·omega
   ·rw [am hc] at hb
    cases hb
  cases u with
  |false=>exact Res.fin z h hS false
  |true=>
   have h3:=h2 rfl
   obtain ⟨r,q',t',cs2,e2,h4⟩:=ykE z hS b (yd vs (yR vs n)).2.1 1 i (ym cs' i).1
   simp only [ai,af hi.1,af hi.2,af h3.1,af (show i<((List.length cs':Nat):Int) by rw [h1];exact h3.2),e2,aa]
   exact Res.fin z h h4 r
 unfold Jx nz
 simp only [WU z h n (kH hn),wF z h,zW q t l cs vs z _ h.S.2.2.2.2.2,qb,e1,aa,yty,yhj]
 cases hb:jW q t l cs vs z n b==0 with
 |false=>
  have hne:(jW q t l cs vs z n b !=0)=true:=by
   rw [bne,hb]
   rfl
  simp only [ag,aa,hne,ai]
  exact Res.same z _
 |true=>
  have h0:jW q t l cs vs z n b=0:=by simpa using hb
  cases hw:isW w with
  |false=>
   simp only [ai,aa,bf,show ((4:Int) !=0)=true from rfl]
   exact Res.same z _
  |true=>
   have hne:(jW q t l cs vs z n b !=0)=false:=by
    rw [bne,hb]
    rfl
   simp only [ai,aa,ay,ag,hne]
   exact main h0
theorem Jz (i b:Int) (h0:0≤i) (h1:i<(vs.length:Int)): ∃ r q' t' cs',zP (q,t,l,cs,vs,z,i,b)=some (r,q',t',l,cs',vs,z)∧SP q' t' l cs' vs:=by
 have hq:=h.tq
 unfold zP nz
 simp only [af h0,af h1,y1B q t l _ _ hq.T h.S.2.2.2.1,wA q t _ _ hq.T hq.q,aa,yJK,yhj]
 have key: ∀ u:Bool,∃ r q' t' cs',(bif u then zE (q,t,l,cs,vs,z,b,(yd vs i).2.1,(2:Int),(0:Int),(0:Int)) else bif (!(jV q t b (yd vs i).2.1).2.2.2.2.2) then some (true,q,t,l,cs,vs,z) else zE (q,t,l,cs,vs,z,b,(yd vs i).2.1,(0:Int),(0:Int),(0:Int)))=some (r,q',t',l,cs',vs,z)∧SP q' t' l cs' vs:=fun u=>by
  cases u
  ·cases (jV q t b (yd vs i).2.1).2.2.2.2.2
   ·exact ⟨_,_,_,_,rfl,h⟩
   ·exact ykE z h _ _ _ _ _
  ·exact ykE z h _ _ _ _ _
 cases (ans (y8a t l b (yd vs i).2.1)).2.2.2.2.2
 ·exact key false
 ·exact key _
theorem yij (n:ByteArray) (b:Int) (hn:n.size≤60):Res q t l cs vs z (ZK (q,t,l,cs,vs,z,n,b)):=by
 unfold ZK nz
 simp only [WU z h n (kH hn),wF z h,zW q t l cs vs z _ h.S.2.2.2.2.2,aa,yty,yhj]
 refine Jv (P:=Res q t l cs vs z) _ (fun _=>Res.same z _) fun hb=> ?_
 have hi:0≤yR vs n∧yR vs n<((List.length vs:Nat):Int):=by
  unfold jW at hb
  have:=Jw vs n
  by_cases hc:yK q t l cs vs z=true∧Z4 n=true
  ·rw [af hc] at hb
   by_cases hv:yR vs n<0
   ·rw [af hv] at hb
    cases hb
   ·omega
  ·rw [am hc] at hb
   cases hb
 obtain ⟨r,q',t',cs',e1,h1⟩:=Jz z h (yR vs n) b hi.1 hi.2
 rw [e1]
 exact Res.fin z h h1 r
omit h in
theorem yct {n:ByteArray} {b:Int} (hb:jW q t l cs vs z n b=0):(0≤yR vs n∧yR vs n<((List.length vs:Nat):Int))∧yK q t l cs vs z=true:=by
 unfold jW at hb
 have:=Jw vs n
 by_cases hc:yK q t l cs vs z=true∧Z4 n=true
 ·rw [af hc] at hb
  by_cases hv:yR vs n<0
  ·rw [af hv] at hb
   cases hb
  ·exact ⟨by omega,hc.1⟩
 ·rw [am hc] at hb
  cases hb
theorem ykF (n:ByteArray) (s:Int) (hn:n.size≤60):Res q t l cs vs z (jw (q,t,l,cs,vs,z,n,s)):=by
 have fin: ∀ (i:Int) (s:Int) (ok:Bool) (q':List y9) (t':List y0) (cs':List y6),0≤i→i<(vs.length:Int)→SP q' t' l cs' vs→Res q t l cs vs z (if (0:Int)≤i then if i<((List.length vs:Nat):Int) then yS (q,t,l,cs,vs,z,q',t',l,cs',List.set vs (Int.toNat i) ((yd vs i).1,(yd vs i).2.1,s,(yd vs i).2.2.2),z,ok) else none else none):=by
  intro i s ok q' t' cs' h0 h1 hS
  rw [af h0,af h1]
  refine Res.fin z h ⟨⟨hS.S.1,hS.S.2.1,hS.S.2.2.1,hS.S.2.2.2.1,hS.S.2.2.2.2.1,by rw [aG];exact h.S.2.2.2.2.2⟩,fun v hv=> ?_⟩ ok
  rcases bg hv with hv|rfl
  ·exact h.N v hv
  ·exact h.N (yd vs i) (z5 Yu vs i h0 h1)
 have loop: ∀ (k0:Int×Int×Bool×List y9×List y0×List y7×List y6×List yf×Int×Int×Int×List y9×List y0×List y7×List y6×List yf→Option P7a) (k1:Int×Int×Bool×List y9×List y0×List y7×List y6×List yf×Int×Int×List y9×List y0×List y7×Int×List y6×List yf→Option P7a) (s i b:Int) (ok:Bool) (y:Int),0≤i→i<(vs.length:Int)→b≤1000→ -1000≤b→0≤s→
   (∀ ok q' t' cs',SP q' t' l cs' vs→Res q t l cs vs z (k0 (s,i,ok,q,t,l,cs,vs,z,y,z,q',t',l,cs',vs)))→
   (∀ ok q' t' cs',SP q' t' l cs' vs→Res q t l cs vs z (k1 (s,i,ok,q,t,l,cs,vs,z,y,q',t',l,z,cs',vs)))→
   Res q t l cs vs z (je k0 k1 (Sum.inl (s,i,ok,b,q,t,l,cs,vs,z,y,z,q,t,l,cs,vs))):=by
  intro k0 k1 s i b ok y h0 h1 hb hb0 hs f0 f1
  unfold je
  refine Yc (step:=YU k0 k1) (fun u:w3=>match u with| .inl u=>(u.2.2.2.1+1).toNat+1| .inr u=>(u.2.2.2.1+1).toNat)
   (fun u=>match u with
    | .inl u=> ∃ b ok q' t' cs',b≤1000∧ -1000≤b∧SP q' t' l cs' vs∧u=(s,i,ok,b,q,t,l,cs,vs,z,y,z,q',t',l,cs',vs)
    | .inr u=> ∃ b ok q' t' cs',b≤1000∧ -1001≤b∧SP q' t' l cs' vs∧u=(s,i,ok,b,q,t,l,cs,vs,z,y,q',t',l,z,cs',vs))
   (fun _ res=>Res q t l cs vs z res) ?_ _ ⟨b,ok,q,t,cs,hb,hb0,h,rfl⟩ (by simp only;omega)
  intro again u hu hag
  cases u with
  |inl u=>
   obtain ⟨b,ok,q',t',cs',k1',k2',hS,rfl⟩:=hu
   unfold YU nz
   simp only at hag ⊢
   by_cases hbs:b≥s
   ·cases ok with
    |false=>
     simp only [ax hbs,ai,aa,ag]
     exact f0 _ _ _ _ hS
    |true=>
     obtain ⟨r,q2,t2,cs2,e1,h2⟩:=Jz z hS i b h0 h1
     have hw:Go.IntKind.wrap .i64 (b - 1)=b - 1:=w64 (by omega) (by omega)
     simp only [ax hbs,ai,aa,e1,hw]
     exact hag _ ⟨b - 1,r,q2,t2,cs2,by omega,by omega,h2,rfl⟩ (by simp only;omega)
   ·simp only [aw hbs,ag,aa]
    exact f0 _ _ _ _ hS
  |inr u=>
   obtain ⟨b,ok,q',t',cs',k1',k2',hS,rfl⟩:=hu
   unfold YU nz
   simp only at hag ⊢
   by_cases hbs:b≥s
   ·cases ok with
    |false=>
     simp only [ax hbs,ai,aa,ag]
     exact f1 _ _ _ _ hS
    |true=>
     obtain ⟨r,q2,t2,cs2,e1,h2⟩:=Jz z hS i b h0 h1
     have hw:Go.IntKind.wrap .i64 (b - 1)=b - 1:=w64 (by omega) (by omega)
     simp only [ax hbs,ai,aa,e1,hw]
     exact hag _ ⟨b - 1,r,q2,t2,cs2,by omega,by omega,h2,rfl⟩ (by simp only;omega)
   ·simp only [aw hbs,ag,aa]
    exact f1 _ _ _ _ hS
 unfold jw nz
 simp only [WU z h n (kH hn),wF z h,zW q t l cs vs z _ h.S.2.2.2.2.2,YP,aa,yty,yhj]
 cases hb:jW q t l cs vs z n 0==0 with
 |false=>
  have hne:(jW q t l cs vs z n 0 !=0)=true:=by
   rw [bne,hb]
   rfl
  simp only [ag,aa,hne,ai]
  exact Res.same z _
 |true=>
  have h0:jW q t l cs vs z n 0=0:=by simpa using hb
  cases hs:inR s 1 12 with
  |false=>
   simp only [ai,aa,bf,show ((4:Int) !=0)=true from rfl]
   exact Res.same z _
  |true=>
   have hne:(jW q t l cs vs z n 0 !=0)=false:=by
    rw [bne,hb]
    rfl
   simp only [ai,aa,ay,ag,hne]
   obtain ⟨hi,hp⟩:=yct z h0
   rw [af hi.1,af hi.2]
   have hs':=zX.1 hs
   have hr:1≤(yd vs (yR vs n)).2.2.1∧(yd vs (yR vs n)).2.2.1≤12:=by
    unfold yK at hp
    simp only [al] at hp
    have hv:=hp.2.2.2.2.2.1
    unfold vF at hv
    simp only [al,bd] at hv
    obtain ⟨j,hj⟩:=y4j _ vs 0 hv.1 _ (z5 Yu vs _ hi.1 hi.2)
    unfold ykx at hj
    simp only [aL,bc,zX] at hj
    exact hj.2.1
   have hw:Go.IntKind.wrap .i64 ((yd vs (yR vs n)).2.2.1 - 1)=(yd vs (yR vs n)).2.2.1 - 1:=w64 (by omega) (by omega)
   rw [hw]
   exact loop _ _ s (yR vs n) _ true 0 hi.1 hi.2 (by omega) (by omega) (by omega) (fun ok q' t' cs' hS=>fin _ s ok q' t' cs' hi.1 hi.2 hS) (fun ok q' t' cs' hS=>fin _ s ok q' t' cs' hi.1 hi.2 hS)
end
end Go.Proofs.YtekbnpmmjciloaaGreat.Pl
namespace Go.Proofs.YtekbnpmmjciloaaGreat.Pl
open Go.Proofs.YtekbnpmmjciloaaGreat.R Go.Proofs.YtekbnpmmjciloaaGreat.XA
def ja (cs:List y6):Int:=YD (fun c:y6=> !c.2.1) cs 0
def vO (cs:List y6) (n:Int):List y6×Int×Bool:=
 if Yb cs=true∧isW n=true∧ ¬ ja cs<0 then (cs.set (ja cs).toNat ((cs.getD (ja cs).toNat zv).1,true,n),ja cs,true) else (cs,0,false)
theorem ycu {cs:List y6} (h: ¬ ja cs<0):0≤ja cs∧ja cs<(cs.length:Int)∧(cs.getD (ja cs).toNat zv).2.1=false:=by
 rcases Js (fun c:y6=> !c.2.1) zv cs 0 (aH _) with h1|⟨h1,h2,h3⟩
 ·exact absurd (show ja cs<0 by unfold ja;omega) h
 ·rw [cK] at h3
  refine ⟨h1,by show YD (fun c:y6=> !c.2.1) cs 0<_;omega,?_⟩
  have:(!(cs.getD (ja cs).toNat zv).2.1)=true:=h3
  simpa using this
theorem y5c (cs:List y6) (n:Int):(vO cs n).1.length=cs.length:=by
 unfold vO
 split<;>simp
theorem y3X (cs:List y6) (hc:cs.length≤1048576):WJ cs=some (ja cs):=by
 unfold WJ y2M nz
 refine (Yr (step:=Wg _ _) (fun i=>(cs,(cs.length:Int),i)) (fun c:y6=> !c.2.1) (fun i=>some i) (some (-1)) zv cs (by omega) ?_ ?_).trans ?_
 ·intro again i h0 h1
  have hw:Go.IntKind.wrap .i64 (i+1)=i+1:=w64 (by omega) (by omega)
  unfold Wg nz
  have hx:cs.getD i.toNat zv=ym cs i:=rfl
  rw [hx]
  simp only [ae,ac,h0,h1,aB,hw]
 ·intro again i hi
  unfold Wg nz
  simp only [ae,ac,am hi]
 ·unfold ja
  rcases y58 (fun c:y6=> !c.2.1) cs 0 with h|⟨h,_⟩
  ·rw [h]
   rfl
  ·rw [am (by omega)]
theorem yeD (cs:List y6) (i:Int) (n:Int) (h0:0≤i) (h1:i<(cs.length:Int)):
  (List.set (List.set cs (Int.toNat i) ((ym cs i).1,true,(ym cs i).2.2)) (Int.toNat i) ((ym (List.set cs (Int.toNat i) ((ym cs i).1,true,(ym cs i).2.2)) i).1,(ym (List.set cs (Int.toNat i) ((ym cs i).1,true,(ym cs i).2.2)) i).2.1,n))=cs.set i.toNat ((cs.getD i.toNat zv).1,true,n):=by
 have hr:ym (List.set cs (Int.toNat i) ((ym cs i).1,true,(ym cs i).2.2)) i=((ym cs i).1,true,(ym cs i).2.2):=by
  show (List.set cs (Int.toNat i) ((ym cs i).1,true,(ym cs i).2.2)).getD i.toNat zv=_
  rw [au,bh (by omega)]
  rfl
 rw [hr,List.set_set]
 rfl
theorem y5K {cs:List y6} {n:Int} (h: ¬ (Yb cs=true∧isW n=true∧ ¬ ja cs<0)):vO cs n=(cs,0,false):=am h
theorem y7f {cs:List y6} {n:Int} (h:Yb cs=true∧isW n=true∧ ¬ ja cs<0):vO cs n=(cs.set (ja cs).toNat ((cs.getD (ja cs).toNat zv).1,true,n),ja cs,true):=af h
theorem y1X (cs:List y6) (n:Int) (hc:cs.length≤1048576):ZX (cs,n)=some (vO cs n):=by
 have e1:Y4 cs=some cs:=by
  unfold Y4 nz
  rw [af (by simp only [aj];omega)]
  rfl
 unfold ZX nz
 simp only [e1,y3X cs hc,y2Z,QS cs hc,aa]
 by_cases hf:ja cs<0
 ·rw [y5K fun h=>h.2.2 hf]
  simp only [ax hf,ai,aa]
 ·obtain ⟨f0,f1,_⟩:=ycu hf
  simp only [aw hf,ag,aa]
  cases hw:isW n with
  |false=>
   rw [y5K fun h=>by rw [hw] at h;exact Bool.noConfusion h.2.1]
   rfl
  |true=>
   simp only [ay,ag,aa]
   cases hk:Yb cs with
   |false=>
    rw [y5K fun h=>by rw [hk] at h;exact Bool.noConfusion h.1]
    rfl
   |true=>
    rw [y7f ⟨hk,hw,hf⟩]
    simp only [ay,ag,aG,af f0,af f1,yeD cs _ n f0 f1]
theorem y1Y (cs:List y6) (n:Int) (hc:cs.length≤1048576):Yl (cs,n)=some (vO cs n):=by
 have e1:YH cs=some cs:=by
  unfold YH nz
  rw [af (by simp only [aj];omega)]
  rfl
 unfold Yl V5 nz
 simp only [e1,aa]
 by_cases hok:Yb cs=true∧isW n=true
 ·refine (Yr (step:=Y8 _ _) (fun i=>(cs,n,i,cs)) (fun c:y6=> !c.2.1) (fun i=>some (cs.set i.toNat ((cs.getD i.toNat zv).1,true,n),i,true)) (some (cs,0,false)) zv cs (by omega) ?_ ?_).trans ?_
  ·intro again i h0 h1
   have hw:Go.IntKind.wrap .i64 (i+1)=i+1:=w64 (by omega) (by omega)
   unfold Y8 nz
   have hx:cs.getD i.toNat zv=ym cs i:=rfl
   have hs:=yeD cs i n h0 h1
   rw [hx] at hs ⊢
   simp only [ae,ac,h0,h1,aB,hw,Wu cs hc,qb,hok.1,hok.2,aa,aG,hs]
  ·intro again i hi
   unfold Y8 nz
   simp only [ae,ac,am hi,aa,aX,aU]
  ·show (if ja cs<0 then _ else _)=_
   by_cases hf:ja cs<0
   ·rw [af hf,y5K fun h=>h.2.2 hf]
   ·rw [am hf,y7f ⟨hok.1,hok.2,hf⟩]
    rfl
 ·rw [y5K fun h=>hok ⟨h.1,h.2.1⟩]
  refine Z2 (step:=Y8 _ _) (fun _=>0) (fun u=>u=(cs,n,0,cs)) (fun _=>some (cs,0,false)) ?_ _ rfl (by decide)
  rintro again u rfl _
  unfold Y8 nz
  simp only [Wu cs hc,qb,aa]
  cases hk:Yb cs with
  |false=>cases decide ((0:Int)<(cs.length:Int))<;>rfl
  |true=>
   have hw:isW n=false:=by
    cases hw:isW n with
    |false=>rfl
    |true=>exact absurd ⟨hk,hw⟩ hok
   rw [hw]
   cases decide ((0:Int)<(cs.length:Int))<;>rfl
def yik (q:List Int) (t:List y0) (i:Int):List Int×List y0:=(q,t.set i.toNat (zU (zo (yk t i))))
theorem yeE (q:List Int) (t:List y0) (i:Int) (h:TS t) (hq:q.length≤1048576) (h0:0≤i) (h1:i<(t.length:Int)):J6 (q,t,i)=some (yik q t i):=by
 have ht:=h.ok.len
 have hN:=nk h h0 h1
 have hk:=hN.keys
 have hm:Go.IntKind.wrap .i64 ((t.length:Int) - 1)=(t.length:Int) - 1:=w64 (by omega) (by omega)
 unfold J6 W5 nz
 simp only [VI q t hq (by omega) (fun n hn=>(h.node n hn).q),YP,hm,aa]
 rw [zX.2 ⟨h0,by omega⟩,ai,af h0,af h1,Vv h h0 h1]
 simp only [aa]
 rw [Jt _ (by omega)]
 simp only [aa]
 rw [af h0,af h1]
 rfl
theorem yeF (q:List Int) (t:List y0) (i:Int) (h:TS t) (hq:q.length≤1048576) (h0:0≤i) (h1:i<(t.length:Int)):Wl (q,t,i)=some (yik q t i):=by
 have ht:=h.ok.len
 have hN:=nk h h0 h1
 have hk:=hN.keys
 have hm:Go.IntKind.wrap .i64 ((t.length:Int) - 1)=(t.length:Int) - 1:=w64 (by omega) (by omega)
 unfold Wl vy nz
 simp only [qx q t hq (by omega) (fun n hn=>(h.node n hn).q),Yd,hm,aa]
 rw [zX.2 ⟨h0,by omega⟩,ai,af h0,af h1,y4k h h0 h1]
 simp only [aa]
 rw [Wv _ (by omega)]
 simp only [aa]
 rw [af h0,af h1]
 rfl
end Go.Proofs.YtekbnpmmjciloaaGreat.Pl
namespace Go.Proofs.YtekbnpmmjciloaaGreat.Pl
open Go.Proofs.YtekbnpmmjciloaaGreat.R Go.Proofs.YtekbnpmmjciloaaGreat.XA
theorem y9H: ∀ (a b c:List UInt8),Go.Op.bytesLess a b=true→Go.Op.bytesLess b c=true→Go.Op.bytesLess a c=true
 |_,[],_,h,_=>by simp [Go.Op.bytesLess] at h
 |_,_::_,[],_,h=>by simp [Go.Op.bytesLess] at h
 |[],_::_,_::_,_,_=>by simp [Go.Op.bytesLess]
 |x::a,y::b,z::c,h1,h2=>by
  simp only [Go.Op.bytesLess,ck,al,ac,bJ] at*
  rcases h1 with h1|⟨rfl,h1⟩
  ·rcases h2 with h2|⟨rfl,h2⟩
   ·exact .inl (UInt8.lt_trans h1 h2)
   ·exact .inl h1
  ·rcases h2 with h2|⟨rfl,h2⟩
   ·exact .inl h2
   ·exact .inr ⟨rfl,y9H a b c h1 h2⟩
def y4o (n:ByteArray) (v:yf):Bool:= !(Go.Op.bytesLess (ByteArray.toList v.1) (ByteArray.toList n)||(ByteArray.toList v.1)==(ByteArray.toList n))
theorem ytB {n:ByteArray} {u v:yf} (h:Go.Op.bytesLess (ByteArray.toList u.1) (ByteArray.toList v.1)=true) (hu:y4o n u=true):y4o n v=true:=by
 unfold y4o at*
 simp only [bd,aL,bj,ne_eq] at*
 refine ⟨?_,fun e=> ?_⟩
 ·cases hb:Go.Op.bytesLess (ByteArray.toList v.1) (ByteArray.toList n) with
  |false=>rfl
  |true=>rw [y9H _ _ _ h hb] at hu;exact absurd hu.1 (by simp)
 ·rw [e] at h
  rw [h] at hu
  exact absurd hu.1 (by simp)
def qF (n:y7):List y7→List y7
 |[]=>[n]
 |a::l=>if a.1>n.1 then n::a::l else a::qF n l
def y3a (id:Int):List y7→Nat
 |[]=>0
 |a::l=>if a.1>id then 0 else y3a id l+1
theorem yeG (id:Int): ∀ l:List y7,y3a id l≤l.length
 |[]=>aS _
 |a::l=>by
  have:=yeG id l
  rw [y3a]
  split<;>simp<;>omega
theorem ykG (n:y7): ∀ l:List y7,l.take (y3a n.1 l)++([n]++l.drop (y3a n.1 l))=qF n l
 |[]=>rfl
 |a::l=>by
  rw [y3a,qF]
  split
  ·rfl
  ·rw [cH,List.drop_succ_cons,bp,ykG n l]
theorem y3r (n:y7): ∀ l:List y7,(qF n l).length=l.length+1
 |[]=>rfl
 |a::l=>by
  have:=y3r n l
  rw [qF]
  split<;>simp [this]
def JQ (l:List y7) (id fr:Int):List y7×Bool:=if 0≤Yk l id∨wD (qF (id,fr) l)=false then (l,false) else (qF (id,fr) l,true)
theorem y0C (l:List y7) (id fr:Int) (hl:l.length≤1000):JK (l,id,fr)=some (JQ l id fr):=by
 unfold JK y2L nz
 refine (Z2 (step:=vh _) (fun x:Wf=>l.length - x.2.2.2.toNat) (fun x=> ∃ j:Int,x=(l,id,fr,j)∧0≤j∧j≤l.length) (fun x=>(fun x2:Wf=>Option.bind (Y1 x2.1) fun r3=>Option.bind (Yx (r3,x2.2.2.2,([(x2.2.1,x2.2.2.1)]:List y7))) fun r4=>Option.bind (YW (x2.1,x2.2.1)) fun r5=>Option.bind (bif (decide (r5≥(0:Int))) then some true else Option.bind (jC r4) fun r7=>some (!r7)) fun u6=>bif u6 then Option.bind (Y1 x2.1) fun r8=>some (r8,false) else some (r4,true)) (l,id,fr,x.2.2.2+(y3a id (l.drop x.2.2.2.toNat):Nat))) ?_ _ ⟨0,rfl,aH _,by omega⟩ (by simp only;omega)).trans ?_
 ·rintro again x ⟨j,rfl,j0,j1⟩ hag
  unfold vh nz
  by_cases hj:j<(l.length:Int)
  ·have hw:Go.IntKind.wrap .i64 (j+1)=j+1:=w64 (by omega) (by omega)
   have hd:l.drop j.toNat=yD l j::l.drop (j.toNat+1):=by
    rw [bP (by omega)]
    congr 1
    show _=l.getD j.toNat YS
    simp [show j.toNat<l.length by omega]
   simp only [ax hj,ai,af j0,af hj,aa,hw]
   rw [hd,y3a]
   by_cases ha:(yD l j).1≤id
   ·rw [ax ha,ai,am (by omega),hag _ ⟨j+1,rfl,by omega,by omega⟩ (by simp only;omega)]
    simp only
    rw [show (j+1).toNat=j.toNat+1 by omega,show j+1+((y3a id (l.drop (j.toNat+1)):Nat):Int)=j+((y3a id (l.drop (j.toNat+1))+1:Nat):Int) by omega]
   ·rw [aw ha,ag,af (by omega)]
    simp
  ·have hd:l.drop j.toNat=[]:=bT (by omega)
   simp only [aw hj,ag,aa,hd,y3a]
   simp
 ·have hp:=yeG id l
  simp only [Int.toNat_zero,cN,Int.zero_add,y1b l (by omega),aa]
  unfold Yx
  simp only
  rw [af (by omega),af (by omega),af (show List.length ([(id,fr)]:List y7)=1 from rfl),af (by omega)]
  simp only [aa,aR,ykG (id,fr) l,WR l id (by omega),y0z (qF (id,fr) l) (by rw [y3r];omega)]
  unfold JQ
  by_cases ha:0≤Yk l id
  ·rw [af (.inl ha),ax (show Yk l id≥0 from ha)]
   rfl
  ·rw [aw (show ¬ Yk l id≥0 from ha)]
   cases hb:wD (qF (id,fr) l) with
   |false=>rw [af (.inr rfl)];rfl
   |true=>rw [am (by simp [ha])];rfl
theorem yPj {n:Nat} (h:n≤1001):(n+1)*16<140737488355328:=by omega
theorem yPk {n:Nat} (h:n≤1001):(n+1+1)*16<140737488355328:=by omega
set_option maxHeartbeats 4000000 in
theorem y0D (l:List y7) (id fr:Int) (hl:l.length≤1000):Y7 (l,id,fr)=some (JQ l id fr):=by
 unfold Y7 Qm nz
 simp only [Zg l id (by omega),aa]
 have hE: ∀ out:List y7,out.length≤1001→(0≤Yk l id∨out=qF (id,fr) l)→(Option.bind (zZ (l,id)) fun r4=>Option.bind (bif (decide (r4≥(0:Int))) then some true else Option.bind (ZD out) fun r6=>some (!r6)) fun u5=>bif u5 then if (List.length ([]:List y7)+List.length l)*16<140737488355328 then some ((([]:List y7)++l),false) else none else some (out,true))=some (JQ l id fr):=by
  intro out ho hcase
  simp only [Zg l id (by omega),kE out (by omega),aa,aT,af (show (List.length ([]:List y7)+List.length l)*16<140737488355328 by simp;omega)]
  unfold JQ
  by_cases ha:0≤Yk l id
  ·rw [af (.inl ha),ax (show Yk l id≥0 from ha)]
   rfl
  ·rcases hcase with h|rfl
   ·exact absurd h ha
   ·rw [aw (show ¬ Yk l id≥0 from ha)]
    cases hb:wD (qF (id,fr) l) with
    |false=>rw [af (.inr rfl)];rfl
    |true=>rw [am (by simp [ha])];rfl
 refine Yc (step:=J3 _) (fun x:wW=>l.length - x.2.2.2.2.1.toNat)
  (fun x=> ∃ (j:Int) (dn:Bool) (acc:List y7),x=(l,id,fr,dn,j,acc)∧0≤j∧j≤l.length∧acc.length≤j.toNat+(bif dn then 1 else 0)∧(dn=true→0≤Yk l id∨acc++l.drop j.toNat=qF (id,fr) l)∧(dn=false→acc++qF (id,fr) (l.drop j.toNat)=qF (id,fr) l))
  (fun _ res=>res=some (JQ l id fr)) ?_ _ ⟨0,_,[],rfl,aH _,by omega,by simp,fun h=> .inl (cO h),fun _=>by simp⟩ (by simp only;omega)
 rintro again x ⟨j,dn,acc,rfl,j0,j1,hl2,hd1,hd2⟩ hag
 unfold J3 nz
 by_cases hj:j<(l.length:Int)
 ·have hw:Go.IntKind.wrap .i64 (j+1)=j+1:=w64 (by omega) (by omega)
  have hd:l.drop j.toNat=yD l j::l.drop (j.toNat+1):=by
   rw [bP (by omega)]
   congr 1
   show _=l.getD j.toNat YS
   simp [show j.toNat<l.length by omega]
  have hjn:(j+1).toNat=j.toNat+1:=by omega
  have heta:((yD l j).1,(yD l j).2)=yD l j:=rfl
  have hal:acc.length≤1001:=by cases dn<;>simp at hl2<;>omega
  have h1:=yPj hal
  have h2:=yPk hal
  have hap: ∀ a b:y7,(acc++[a])++[b]++l.drop (j.toNat+1)=acc++(a::b::l.drop (j.toNat+1)):=fun a b=>by simp only [bo,bp,aT]
  have hap1: ∀ (a:y7) (m:List y7),(acc++[a])++m=acc++(a::m):=fun a m=>by simp only [bo,bp,aT]
  cases dn with
  |true=>
   simp only [ax hj,ai,af j0,af hj,aa,hw,ay,ag,ah,aj,aK,ar,heta,af h1]
   refine hag _ ⟨j+1,true,acc++[yD l j],rfl,by omega,by omega,by simp only [ai,ar,ah,aj] at hl2 ⊢;omega,fun h=>(hd1 h).imp (fun h=>h) fun h=> ?_,fun h=>Bool.noConfusion h⟩ (by simp only;omega)
   rw [hjn,← h,hd]
   exact hap1 _ _
  |false=>
   simp only [ax hj,ai,af j0,af hj,aa,hw,bf,ah,aj,aK,ar,heta,af h1,af h2]
   have h3:=hd2 rfl
   rw [hd,qF] at h3
   by_cases ha:(yD l j).1>id
   ·rw [af ha] at h3
    rw [ax ha,ai]
    refine hag _ ⟨j+1,true,_,rfl,by omega,by omega,by simp only [ai,ag,ar,ah,aj] at hl2 ⊢;omega,fun _=> .inr ?_,fun h=>Bool.noConfusion h⟩ (by simp only;omega)
    rw [hjn,← h3]
    exact hap _ _
   ·rw [am ha] at h3
    rw [aw ha,ag]
    refine hag _ ⟨j+1,false,_,rfl,by omega,by omega,by simp only [ag,ar,ah,aj] at hl2 ⊢;omega,fun h=>Bool.noConfusion h,fun _=> ?_⟩ (by simp only;omega)
    rw [hjn,← h3]
    exact hap1 _ _
 ·have hd:l.drop j.toNat=[]:=bT (by omega)
  rw [hd] at hd1 hd2
  have hal:acc.length≤1001:=by cases dn<;>simp at hl2<;>omega
  simp only [aw hj,ag]
  cases dn with
  |true=>
   simp only [ay,ag]
   exact hE acc hal ((hd1 rfl).imp (fun h=>h) fun h=>by simpa using h)
  |false=>
   have h1:(List.length acc+List.length [(id,fr)])*16<140737488355328:=by simp;omega
   simp only [bf,ai,af h1]
   have h3:acc++[(id,fr)]=qF (id,fr) l:=hd2 rfl
   exact hE (acc++[(id,fr)]) (by rw [h3,y3r];omega) (.inr h3)
end Go.Proofs.YtekbnpmmjciloaaGreat.Pl
namespace Go.Proofs.YtekbnpmmjciloaaGreat.Pl
open Go.Proofs.YtekbnpmmjciloaaGreat.R Go.Proofs.YtekbnpmmjciloaaGreat.XA
def WY (v:yf):List yf→List yf
 |[]=>[v]
 |u::r=>if y4o v.1 u=true then v::u::r else u::WY v r
theorem y1d (v:yf): ∀ l:List yf,(WY v l).length=l.length+1
 |[]=>rfl
 |u::r=>by
  have:=y1d v r
  rw [WY]
  split<;>simp [this]
theorem yeH (v:yf): ∀ (l:List yf) (i:Nat),i≤l.length→(∀ j,j<i→y4o v.1 (l.getD j Yu)=false)→(i<l.length→y4o v.1 (l.getD i Yu)=true)→WY v l=l.take i++v::l.drop i
 |[],i,hi,_,_=>by
  have:i=0:=by simpa using hi
  subst this
  rfl
 |u::r,0,_,_,h2=>by
  have:=h2 (by simp)
  rw [WY,af (by simpa using this)]
  rfl
 |u::r,i+1,hi,h1,h2=>by
  have:=h1 0 (by omega)
  rw [WY,am (by simpa using this),yeH v r i (by simpa using hi) (fun j hj=>by simpa using h1 (j+1) (by omega)) (fun h=>by simpa using h2 (by simpa using h))]
  rfl
def ytC (l:List yf):Prop:= ∀ j,j+1<l.length→Go.Op.bytesLess (ByteArray.toList (l.getD j Yu).1) (ByteArray.toList (l.getD (j+1) Yu).1)=true
theorem yhk {l:List yf} (h:ytC l) (n:ByteArray) {j:Nat}: ∀ k:Nat,j+k<l.length→y4o n (l.getD j Yu)=true→y4o n (l.getD (j+k) Yu)=true
 |0,_,ho=>ho
 |k+1,hk,ho=>ytB (h (j+k) hk) (yhk h n k (by omega) ho)
theorem yfY {A:Type}: ∀ (X:List A) (y z:A) (Y:List A),(X++y::Y).set X.length z=X++z::Y
 |[],_,_,_=>rfl
 |x::X,y,z,Y=>by
  have:=yfY X y z Y
  simpa using this
theorem yPl {n:Nat} (h:n≤1001):(n+1)*40<140737488355328:=by omega
theorem yPm {n:Nat} (h:n≤1001):(n+1+1)*40<140737488355328:=by omega
theorem y1e (vs:List yf) (n:ByteArray) (a s:Int) (f:Bool) (hv:vs.length≤1000):jh (vs,n,a,s,f)=some (WY (n,a,s,f) vs):=by
 unfold jh y0a nz
 refine Yc (step:=wI _) (fun x:wH=>vs.length - x.2.2.2.1.toNat)
  (fun x=> ∃ (j:Int) (dn:Bool) (acc:List yf),x=(dn,vs,(vs.length:Int),j,n,a,s,f,acc)∧0≤j∧j≤vs.length∧acc.length≤1001∧(dn=true→acc++vs.drop j.toNat=WY (n,a,s,f) vs)∧(dn=false→acc++WY (n,a,s,f) (vs.drop j.toNat)=WY (n,a,s,f) vs))
  (fun _ res=>res=some (WY (n,a,s,f) vs)) ?_ _ ⟨0,false,[],rfl,aH _,by omega,by simp,fun h=>Bool.noConfusion h,fun _=>by simp⟩ (by simp only;omega)
 rintro again x ⟨j,dn,acc,rfl,j0,j1,hl2,hd1,hd2⟩ hag
 have hL:=y1d (n,a,s,f) vs
 unfold wI nz
 by_cases hj:j<(vs.length:Int)
 ·have hw:Go.IntKind.wrap .i64 (j+1)=j+1:=w64 (by omega) (by omega)
  have hd:vs.drop j.toNat=yd vs j::vs.drop (j.toNat+1):=by
   rw [bP (by omega)]
   congr 1
   show _=vs.getD j.toNat Yu
   simp [show j.toNat<vs.length by omega]
  have hjn:(j+1).toNat=j.toNat+1:=by omega
  have heta:((yd vs j).1,(yd vs j).2.1,(yd vs j).2.2.1,(yd vs j).2.2.2)=yd vs j:=rfl
  have h1:=yPl hl2
  have h2:=yPm hl2
  have hap: ∀ a b:yf,(acc++[a])++[b]++vs.drop (j.toNat+1)=acc++(a::b::vs.drop (j.toNat+1)):=fun a b=>by simp only [bo,bp,aT]
  have hap1: ∀ (a:yf) (m:List yf),(acc++[a])++m=acc++(a::m):=fun a m=>by simp only [bo,bp,aT]
  rw [hd] at hd1 hd2
  cases dn with
  |true=>
   have h3:=hd1 rfl
   simp only [ax hj,ai,af j0,af hj,aa,hw,ay,ag,ah,aj,aK,heta,af h1]
   have h4:=congrArg List.length h3
   rw [ar,ah,aC] at h4
   refine hag _ ⟨j+1,true,acc++[yd vs j],rfl,by omega,by omega,by rw [ar];simp only [ah,aj];omega,fun h=> ?_,fun h=>Bool.noConfusion h⟩ (by simp only;omega)
   rw [hjn,← h3]
   exact hap1 _ _
  |false=>
   have h3:=hd2 rfl
   have h4:=congrArg List.length h3
   rw [ar,y1d,ah,aC] at h4
   rw [WY] at h3
   have hov:(!(Go.Op.bytesLess (ByteArray.toList ((yd vs j).1)) (ByteArray.toList n)||(ByteArray.toList ((yd vs j).1))==(ByteArray.toList n)))=y4o n (yd vs j):=rfl
   simp only [ax hj,ai,af j0,af hj,aa,hw,bf,ah,aj,aK,ar,heta,af h1,af h2,hov]
   cases ho:y4o n (yd vs j) with
   |true=>
    rw [af ho] at h3
    rw [ai]
    refine hag _ ⟨j+1,true,_,rfl,by omega,by omega,by simp only [ar,ah,aj];omega,fun _=> ?_,fun h=>Bool.noConfusion h⟩ (by simp only;omega)
    rw [hjn,← h3]
    exact hap _ _
   |false=>
    rw [am (by rw [ho];exact Bool.false_ne_true)] at h3
    rw [ag]
    refine hag _ ⟨j+1,false,_,rfl,by omega,by omega,by simp only [ar,ah,aj];omega,fun h=>Bool.noConfusion h,fun _=> ?_⟩ (by simp only;omega)
    rw [hjn,← h3]
    exact hap1 _ _
 ·have hd:vs.drop j.toNat=[]:=bT (by omega)
  rw [hd] at hd1 hd2
  simp only [aw hj,ag]
  cases dn with
  |true=>
   simp only [ay,ag]
   rw [← hd1 rfl,bt]
  |false=>
   have h1:(List.length acc+List.length ([(n,a,s,f)]:List yf))*40<140737488355328:=by simp only [ah,aj];omega
   simp only [bf,ai,af h1]
   rw [← hd2 rfl]
   rfl
theorem y3Y (vs:List yf) (n:ByteArray) (a s:Int) (f:Bool) (hv:vs.length≤1000) (hs:ytC vs):YT (vs,n,a,s,f)=some (WY (n,a,s,f) vs):=by
 unfold YT Kp nz
 have h1:(List.length ([]:List yf)+List.length vs)*40<140737488355328:=by simp only [aj];omega
 have h2:(List.length (([]:List yf)++vs)+List.length ([(n,a,s,f)]:List yf))*40<140737488355328:=by simp only [aT,ah,aj];omega
 simp only
 rw [af h1,af h2]
 simp only [aT]
 have hw0:Go.IntKind.wrap .i64 ((((vs++[(n,a,s,f)]).length:Nat):Int) - 1)=(vs.length:Int):=by
  rw [ar,w64 (by simp only [ah,aj];omega) (by simp only [ah,aj];omega)]
  simp only [ah,aj]
  omega
 rw [hw0]
 refine Yc (step:=Zp _) (fun x:jt=>x.1.toNat)
  (fun x=> ∃ (j:Int) (u:yf),x=(j,n,a,s,f,vs.take j.toNat++u::vs.drop j.toNat)∧0≤j∧j≤vs.length∧(j<vs.length→y4o n (vs.getD j.toNat Yu)=true))
  (fun _ res=>res=some (WY (n,a,s,f) vs)) ?_ _ ⟨(vs.length:Int),(n,a,s,f),by rw [aR,bF,cS],by omega,aH _,fun h=>absurd h (Int.lt_irrefl _)⟩ (by simp only;omega)
 rintro again x ⟨j,u,rfl,j0,j1,ho⟩ hag
 have hxl:(vs.take j.toNat++u::vs.drop j.toNat).length=vs.length+1:=by
  simp only [ar,ak,ah,aC]
  omega
 have htl:(vs.take j.toNat).length=j.toNat:=by rw [ak];omega
 have hset: ∀ y:yf,(vs.take j.toNat++u::vs.drop j.toNat).set j.toNat y=vs.take j.toNat++y::vs.drop j.toNat:=fun y=>by
  have:=yfY (vs.take j.toNat) u y (vs.drop j.toNat)
  rwa [htl] at this
 unfold Zp nz
 have done:(0<j→y4o n (vs.getD (j.toNat - 1) Yu)=false)→some (vs.take j.toNat++(n,a,s,f)::vs.drop j.toNat)=some (WY (n,a,s,f) vs):=fun hlast=>by
  rw [yeH (n,a,s,f) vs j.toNat (by omega) (fun i hi=> ?_) (fun h=>ho (by omega))]
  cases hov:y4o n (vs.getD i Yu) with
  |false=>rfl
  |true=>
   have:=yhk hs n (j:=i) (j.toNat - 1 - i) (by omega) hov
   rw [show i+(j.toNat - 1 - i)=j.toNat - 1 by omega,hlast (by omega)] at this
   cases this
 by_cases hj:j>0
 ·have hw:Go.IntKind.wrap .i64 (j - 1)=j - 1:=w64 (by omega) (by omega)
  have hrd:yd (vs.take j.toNat++u::vs.drop j.toNat) (j - 1)=vs.getD (j.toNat - 1) Yu:=by
   show (vs.take j.toNat++u::vs.drop j.toNat).getD (j - 1).toNat Yu=_
   rw [show (j - 1).toNat=j.toNat - 1 by omega,au,au,aE (by rw [htl];omega),aD,af (by omega)]
  have hov:(!(Go.Op.bytesLess (ByteArray.toList ((vs.getD (j.toNat - 1) Yu).1)) (ByteArray.toList n)||(ByteArray.toList ((vs.getD (j.toNat - 1) Yu).1))==(ByteArray.toList n)))=y4o n (vs.getD (j.toNat - 1) Yu):=rfl
  have heta:((vs.getD (j.toNat - 1) Yu).1,(vs.getD (j.toNat - 1) Yu).2.1,(vs.getD (j.toNat - 1) Yu).2.2.1,(vs.getD (j.toNat - 1) Yu).2.2.2)=vs.getD (j.toNat - 1) Yu:=rfl
  simp only [ax hj,ai,hw,af (show (0:Int)≤j - 1 by omega),af (show j - 1<((List.length (vs.take j.toNat++u::vs.drop j.toNat):Nat):Int) by rw [hxl];omega),af j0,af (show j<((List.length (vs.take j.toNat++u::vs.drop j.toNat):Nat):Int) by rw [hxl];omega),hrd,hov,heta,hset,aa]
  cases hb:y4o n (vs.getD (j.toNat - 1) Yu) with
  |true=>
   rw [ai]
   have e1:vs.take j.toNat=vs.take (j - 1).toNat++[vs.getD (j.toNat - 1) Yu]:=by
    rw [show j.toNat=(j.toNat - 1)+1 by omega,List.take_succ,show (j - 1).toNat=j.toNat - 1 by omega]
    congr 1
    rw [aJ (by omega),Nat.add_sub_cancel]
    simp [show j.toNat - 1<vs.length by omega]
   have e2:vs.drop (j - 1).toNat=vs.getD (j.toNat - 1) Yu::vs.drop j.toNat:=by
    rw [bP (by omega),show (j - 1).toNat+1=j.toNat by omega]
    congr 1
    simp [show (j - 1).toNat=j.toNat - 1 by omega,show j.toNat - 1<vs.length by omega]
   refine hag _ ⟨j - 1,vs.getD (j.toNat - 1) Yu,?_,by omega,by omega,fun _=>by rw [show (j - 1).toNat=j.toNat - 1 by omega];exact hb⟩ (by simp only;omega)
   rw [e1,e2,bo]
   rfl
  |false=>
   rw [ag]
   exact done fun _=>hb
 ·simp only [aw hj,ag,aa,af j0,af (show j<((List.length (vs.take j.toNat++u::vs.drop j.toNat):Nat):Int) by rw [hxl];omega),hset]
  exact done fun h=>absurd h hj
theorem yn8 {vs:List yf} {l:List y7} (h:vF vs l=true):ytC vs:=by
 intro j hj
 unfold vF at h
 simp only [al,bd] at h
 have:=y4V Yu vs 0 h.1 (j+1) hj
 unfold ykx at this
 simp only [aL,bc,Bool.and_eq_false_iff] at this
 rcases this.2.2.2.2.1 with h1|h1
 ·have:=bR h1
  omega
 ·rwa [show ((0:Int)+((j+1:Nat):Int) - 1).toNat=j by omega] at h1
theorem ytD {vs:List yf} (h:ytC vs) (i:Nat) (v:yf) (hv:v.1=(vs.getD i Yu).1):ytC (vs.set i v):=by
 have hn: ∀ k,((vs.set i v).getD k Yu).1=(vs.getD k Yu).1:=fun k=>by
  rw [au,au]
  by_cases hk:i=k
  ·subst hk
   by_cases hl:i<vs.length
   ·rw [bh hl]
    rw [au] at hv
    exact hv
   ·rw [bE (by rw [aG];omega),bE (by omega)]
  ·rw [bl hk]
 intro j hj
 rw [hn,hn]
 exact h j (by simpa using hj)
section
variable (q:List y9) (t:List y0) (l:List y7) (cs:List y6) (vs:List yf) (z:Int)
theorem qQ (n:ByteArray) (hv:vs.length≤1048576):jF (q,t,l,cs,vs,z,n)=some (yR vs n):=by
 unfold jF zM Zy nz
 have key:=Yr (step:=zc (fun x2=>some x2) (fun x3=>some ((-1:Int),x3))) (fun i=>(vs,(vs.length:Int),i,n)) (fun v:yf=>ByteArray.toList v.1==ByteArray.toList n) (fun i=>some (i,n)) (some (-1,n)) Yu vs (by omega) (fun again i h0 h1=>by
  have hw:Go.IntKind.wrap .i64 (i+1)=i+1:=w64 (by omega) (by omega)
  unfold zc VD nz
  simp only [ae,ac,h0,h1,aB,hw,aa]
  rfl) (fun again i hi=>by
  unfold zc nz
  simp only [ae,ac,am hi])
 simp only
 rw [key]
 rcases Jw vs n with h|⟨h1,h2⟩<;>unfold yR at*
 ·rw [h]
  rfl
 ·rw [am (by omega)]
  rfl
noncomputable def yDm (n:ByteArray) (b:Int):Int:=if yK q t l cs vs z=true∧Z4 n=true then (if yR vs n<0 then 2 else if inR b 0 (Go.IntKind.wrap .i64 ((yd vs (yR vs n)).2.2.1 - 1))=true then 0 else 4) else 1
variable {q t l cs vs} (h:SP q t l cs vs)
include h
theorem Vw (n:ByteArray) (hn:n.size≤maxLen) (b:Int) (ch:Bool):Zr (q,t,l,cs,vs,z,n,b,ch)=some (yR vs n,if ch=true then jW q t l cs vs z n b else yDm q t l cs vs z n b):=by
 unfold Zr jW yDm nz
 simp only [qQ q t l cs vs z n h.S.2.2.2.2.2,YE z h,zH n hn,Yd,aa]
 cases hp:yK q t l cs vs z with
 |false=>cases ch<;>rfl
 |true=>
  cases hno:Z4 n with
  |false=>cases ch<;>rfl
  |true=>
   simp only [ay,ag,aa,and_self,aB]
   by_cases hv:yR vs n<0
   ·simp only [ax hv,ai,af hv]
    cases ch<;>rfl
   ·have h2:=Jw vs n
    simp only [aw hv,ag,am hv,af (show (0:Int)≤yR vs n by omega),af (show yR vs n<((List.length vs:Nat):Int) by omega)]
    cases ch<;>cases (yd vs (yR vs n)).2.2.2<;>cases inR b 0 (Go.IntKind.wrap .i64 ((yd vs (yR vs n)).2.2.1 - 1))<;>rfl
theorem qU {q':List y9} {t':List y0} {l':List y7} {cs':List y6} {vs':List yf} {z':Int} (hx:SP q' t' l' cs' vs') (b:Bool):zi (q,t,l,cs,vs,z,q',t',l',cs',vs',z',b)=some (if b=true∧yK q' t' l' cs' vs' z'=true then (q',t',l',cs',vs',z',0) else (q,t,l,cs,vs,z,6)):=by
 have ec:ye (q,t,l,cs,vs,z)=some (q,t,l,cs,vs,z):=wt q t l cs vs z h.S
 unfold zi nz
 simp only [YE z' hx,ec,aa]
 cases b<;>cases hp:yK q' t' l' cs' vs' z'<;>simp
omit h in
theorem yil {q:List y9} {t:List y0} {k:y8} (h:(yw q t k).2.2=false):(yw q t k).1=q∧(yw q t k).2.1=t:=by
 unfold yw at h ⊢
 split
 ·rename_i h1
  rw [af h1] at h
  split
  ·rename_i h2
   rw [af h2] at h
   cases h
  ·exact ⟨rfl,rfl⟩
 ·exact ⟨rfl,rfl⟩
def yfZ (q:List y9) (t:List y0) (l:List y7) (cs:List y6) (vs:List yf) (z:Int) (k:y8):Bool×List y9×List y0×List y7×List y6×List yf×Int:=
 ((yw q t k).2.2,(yw q t k).1,(yw q t k).2.1,l,if (yw q t k).2.2=true then qB q t cs k else cs,vs,z)
theorem y8k (a b c d e:Int):zE (q,t,l,cs,vs,z,a,b,c,d,e)=some (yfZ q t l cs vs z (a,b,c,d,e)):=by
 have hq:=h.tq
 unfold zE yfZ nz
 simp only [wA q t a b hq.T hq.q,Zn q t a b c d e hq.T hq.Q hq.q,aa]
 cases hr:(yw q t (a,b,c,d,e)).2.2 with
 |false=>
  obtain ⟨e1,e2⟩:=yil hr
  rw [e1,e2]
  rfl
 |true=>
  unfold ww qB nz
  simp only [ay,ag,aB,jk cs _ h.S.2.2.2.2.1,aa]
  cases (jV q t a b).2.2.2.2.2 with
  |false=>rfl
  |true=>
   by_cases h1:(jV q t a b).2.2.1=1
   ·rw [af ⟨rfl,h1⟩]
    simp only [h1,ai,aa,bV]
   ·rw [am fun hh=>h1 hh.2]
    simp only [ai,aa,bj.2 h1,ag]
theorem y8l (a b c d e:Int):z3 (q,t,l,cs,vs,z,a,b,c,d,e)=some (yfZ q t l cs vs z (a,b,c,d,e)):=by
 have hq:=h.tq
 unfold z3 yfZ nz
 simp only [VJ q t a b hq.T hq.q,Ww q t a b c d e hq.T hq.Q hq.q,aa]
 cases hr:(yw q t (a,b,c,d,e)).2.2 with
 |false=>rfl
 |true=>
  unfold qB
  simp only [ai,aB,aa,qz cs _ h.S.2.2.2.2.1]
  cases (jV q t a b).2.2.2.2.2 with
  |false=>rfl
  |true=>
   by_cases h1:(jV q t a b).2.2.1=1
   ·rw [af ⟨rfl,h1⟩]
    simp only [h1,ai,aa,bV]
   ·rw [am fun hh=>h1 hh.2]
    simp only [ai,aa,bj.2 h1,ag]
theorem y3b (i b:Int):YA (q,t,l,cs,vs,z,i,b)=zP (q,t,l,cs,vs,z,i,b):=by
 have hq:=h.tq
 unfold YA zP nz
 simp only [y52 q t l _ _ hq.T h.S.2.2.2.1,y1B q t l _ _ hq.T h.S.2.2.2.1,VJ q t _ _ hq.T hq.q,wA q t _ _ hq.T hq.q,y8l z h,y8k z h,aa]
 split
 ·split
  ·have key: ∀ u v:Bool,(bif u then some (yfZ q t l cs vs z (b,(yd vs i).2.1,2,0,0)) else bif v then some (yfZ q t l cs vs z (b,(yd vs i).2.1,0,0,0)) else some (true,q,t,l,cs,vs,z))=(bif u then some (yfZ q t l cs vs z (b,(yd vs i).2.1,2,0,0)) else bif (!v) then some (true,q,t,l,cs,vs,z) else some (yfZ q t l cs vs z (b,(yd vs i).2.1,0,0,0))):=fun u v=>by cases u<;>cases v<;>rfl
   cases (ans (y8a t l b (yd vs i).2.1)).2.2.2.2.2
   ·exact key false _
   ·exact key _ _
  ·rfl
 ·rfl
end
end Go.Proofs.YtekbnpmmjciloaaGreat.Pl
namespace Go.Proofs.YtekbnpmmjciloaaGreat.Pl
open Go.Proofs.YtekbnpmmjciloaaGreat.R Go.Proofs.YtekbnpmmjciloaaGreat.XA
def MS (l:List yO):Prop:=l.length≤1000∧ ∀ m∈l,ByteArray.size m.1≤60∧List.length m.2.2≤1000
theorem MS.rd {l:List yO} (h:MS l) {i:Int} (h0:0≤i) (h1:i<(l.length:Int)):ByteArray.size (yG l i).1≤60∧List.length (yG l i).2.2≤1000:=h.2 _ (z5 y0N l i h0 h1)
theorem y3s {T R:Type} {step:(T→Option R)→T→Option R} (mk:Int→List yO→T) (k:List yO→Option R) {l:List yO} (hl:MS l)
  (h: ∀ again i o,0≤i→i<(l.length:Int)→o.length≤1000→List.length (yG l i).2.2≤1000→Go.IntKind.wrap .i64 (i+1)=i+1→step again (mk i o)=again (mk (i+1) (o++[yG l i])))
  (hd: ∀ again i o,¬ i<(l.length:Int)→step again (mk i o)=k o):zI step zY (mk 0 [])=k l:=by
 have h1:=hl.1
 refine (y51 (step:=step) y0N l (fun i=>mk i []) mk (k []) k (by omega) (fun again i i0 i1=> ?_) (fun again i o i0 i1 i2=> ?_) (fun again i hi=>hd again i [] hi) hd).trans ?_
 ·exact h again i [] i0 i1 (by simp) (hl.rd i0 i1).2 (w64 (by omega) (by omega))
 ·exact h again i o i0 i1 (by omega) (hl.rd i0 i1).2 (w64 (by omega) (by omega))
 ·split
  ·rename_i h0
   rw [aP.1 h0]
  ·rfl
theorem yMG {n:Nat} (h:n≤1000):n*8<140737488355328:=by omega
theorem yim {n:Nat} (h:n≤1000):(n+1)*48<140737488355328:=by omega
theorem qV {l:List yO} (h:MS l):Yq l=some l:=by
 unfold Yq y1T nz
 refine y3s (step:=we _) (fun i o=>(l,i,o)) _ h (fun again i o i0 i1 i2 i3 hw=> ?_) fun again i o hi=> ?_
 ·simp only [nz,we,ae,ac,i0,i1,aB,hw,aj,ah,aK,aT,af (yMG i3),af (yim i2)]
  rfl
 ·simp only [nz,we,ae,ac,am hi]
theorem yg0 {l:List yO} (h:MS l):ZZ l=some l:=by
 unfold ZZ q8 nz
 refine y3s (step:=Zk _) (fun i o=>(l,i,o)) _ h (fun again i o i0 i1 i2 i3 hw=> ?_) fun again i o hi=> ?_
 ·simp only [nz,Zk,ae,ac,i0,i1,aB,hw,aj,ah,aK,aT,af (yMG i3),af (yim i2)]
  rfl
 ·simp only [nz,Zk,ae,ac,am hi]
theorem qW {l:List yO} (h:MS l):yQ l=some l:=by
 unfold yQ y11 nz
 refine y3s (step:=Jh _) (fun i o=>(l,((List.length l:Nat):Int),i,o)) _ h (fun again i o i0 i1 i2 i3 hw=> ?_) fun again i o hi=> ?_
 ·simp only [nz,Jh,ae,ac,i0,i1,aB,hw,ws _ (aO i3 (by decide)),aa,aj,ah,aK,af (yim i2)]
  rfl
 ·simp only [nz,Jh,ae,ac,am hi]
theorem yg1 {l:List yO} (h:MS l):ZB l=some l:=by
 unfold ZB vQ nz
 refine y3s (step:=Z1 _) (fun i o=>(l,((List.length l:Nat):Int),i,o)) _ h (fun again i o i0 i1 i2 i3 hw=> ?_) fun again i o hi=> ?_
 ·simp only [nz,Z1,ae,ac,i0,i1,aB,hw,ws _ (aO i3 (by decide)),aa,aj,ah,aK,af (yim i2)]
  rfl
 ·simp only [nz,Z1,ae,ac,am hi]
def YR (l:List yO) (n:ByteArray):Int:=YD (fun v:yO=>ByteArray.toList v.1==ByteArray.toList n) l 0
theorem qX (l:List yO) (n:ByteArray):YR l n= -1∨(0≤YR l n∧YR l n<l.length):=by
 rcases Js (fun v:yO=>ByteArray.toList v.1==ByteArray.toList n) y0N l 0 (aH _) with h|⟨h1,h2,h3⟩
 ·exact .inl h
 ·exact .inr ⟨h1,by simpa [YR] using h2⟩
theorem vK {l:List yO} (n:ByteArray) (hl:MS l):Zj (l,n)=some (YR l n):=by
 have h1:=hl.1
 unfold Zj y3O nz
 refine (Yr (step:=kv _ _) (fun i=>(l,n,i)) (fun v:yO=>ByteArray.toList v.1==ByteArray.toList n) (fun x=>some x) (some (-1)) y0N l (by omega) ?_ ?_).trans ?_
 ·intro again i h0 h1
  have hw:Go.IntKind.wrap .i64 (i+1)=i+1:=w64 (by omega) (by omega)
  unfold kv nz
  simp only [ae,ac,h0,h1,aB,hw]
  rfl
 ·intro again i hi
  unfold kv nz
  simp only [ae,ac,am hi]
 ·rcases qX l n with h|⟨h1,h2⟩<;>unfold YR at*
  ·rw [h]
   rfl
  ·rw [am (by omega)]
theorem vL {l:List yO} (n:ByteArray) (hl:MS l):jM (l,n)=some (YR l n):=by
 have h1:=hl.1
 have e:zn (l,n)=some (YR l n,n):=by
  unfold zn ZA nz
  refine (Yr (step:=zd _ _) (fun i=>(l,((List.length l:Nat):Int),i,n)) (fun v:yO=>ByteArray.toList v.1==ByteArray.toList n) (fun x=>some (x,n)) (some (-1,n)) y0N l (by omega) ?_ ?_).trans ?_
  ·intro again i h0 h1
   have hw:Go.IntKind.wrap .i64 (i+1)=i+1:=w64 (by omega) (by omega)
   unfold zd nz
   simp only [nz,ae,ac,h0,h1,aB,hw,VE,aa]
   rfl
  ·intro again i hi
   unfold zd nz
   simp only [ae,ac,am hi]
  ·rcases qX l n with h|⟨h1,h2⟩<;>unfold YR at*
   ·rw [h]
    rfl
   ·rw [am (by omega)]
 unfold jM nz
 rw [e]
 rfl
def ovM (n:ByteArray) (v:yO):Bool:= !(Go.Op.bytesLess (ByteArray.toList v.1) (ByteArray.toList n)||(ByteArray.toList v.1)==(ByteArray.toList n))
def yg2 (n:ByteArray) (l:List yO):Nat→Nat
 |0=>0
 |k+1=>if ovM n (l.getD k y0N)=true then yg2 n l k else k+1
theorem ykH (n:ByteArray) (l:List yO): ∀ k,yg2 n l k≤k
 |0=>aS _
 |k+1=>by
  have:=ykH n l k
  rw [yg2]
  split<;>omega
def yl3 (m:yO) (l:List yO):List yO:=l.take (yg2 m.1 l l.length)++([m]++l.drop (yg2 m.1 l l.length))
theorem y8m {l:List yO} (m:yO) (hl:MS l):Zs (l,m)=some (yl3 m l):=by
 have h1:=hl.1
 unfold Zs y0d nz
 refine Yc (step:=wK _) (fun x:wJ=>x.2.1.toNat)
  (fun x=> ∃ j:Nat,x=(l,(j:Int),m.1,m.2.1,m.2.2)∧j≤l.length∧yg2 m.1 l j=yg2 m.1 l l.length)
  (fun _ res=>res=some (yl3 m l)) ?_ _ ⟨l.length,rfl,aS _,rfl⟩ (by simp only;omega)
 rintro again x ⟨j,rfl,j1,hp⟩ hag
 unfold wK nz
 have done:yg2 m.1 l j=j→(Option.bind (yQ l) fun r3=>Option.bind (Yz (r3,(j:Int),([m]:List yO))) fun r4=>some r4)=some (yl3 m l):=fun hj=>by
  have hb:=yim h1
  simp only [qW hl,aa,Yz]
  rw [af (by omega),af (by omega),af (show List.length [m]=1 from rfl),af (by omega),aR]
  unfold yl3
  rw [← hp,hj]
  rfl
 cases j with
 |zero=>
  simp only [ae,ac,am (show ¬ (((0:Nat):Int)>0) by omega),aa]
  exact done rfl
 |succ j=>
  have hw:Go.IntKind.wrap .i64 (((j+1:Nat):Int) - 1)=(j:Int):=by rw [w64 (by omega) (by omega)];omega
  have hov:(!(Go.Op.bytesLess (ByteArray.toList ((yG l (j:Int)).1)) (ByteArray.toList m.1)||(ByteArray.toList ((yG l (j:Int)).1))==(ByteArray.toList m.1)))=ovM m.1 (l.getD j y0N):=rfl
  simp only [ae,ac,af (show ((j+1:Nat):Int)>0 by omega),hw,af (show (0:Int)≤(j:Int) by omega),af (show (j:Int)<((List.length l:Nat):Int) by omega),aa,hov]
  rw [yg2] at hp
  split
  ·rename_i ho
   rw [af ho] at hp
   exact hag _ ⟨j,rfl,by omega,hp⟩ (by simp only;omega)
  ·rename_i ho
   rw [am ho] at hp
   exact done (by rw [yg2,am ho])
theorem y8n {l:List yO} (m:yO) (hl:MS l):JN (l,m)=some (yl3 m l):=by
 have h1:=hl.1
 unfold JN y2T nz
 simp only [qV hl,aa]
 rw [af (by simpa using yim h1)]
 have hw0:Go.IntKind.wrap .i64 ((((l++[m]).length:Nat):Int) - 1)=(l.length:Int):=by
  rw [ar,w64 (by simp only [ah,aj];omega) (by simp only [ah,aj];omega)]
  simp only [ah,aj]
  omega
 rw [hw0]
 refine Yc (step:=vC _) (fun x:vz=>x.1.toNat)
  (fun x=> ∃ (j:Nat) (u:yO),x=((j:Int),m.1,m.2.1,m.2.2,l.take j++u::l.drop j)∧j≤l.length∧yg2 m.1 l j=yg2 m.1 l l.length)
  (fun _ res=>res=some (yl3 m l)) ?_ _ ⟨l.length,m,by rw [bF,cS],aS _,rfl⟩ (by simp only;omega)
 rintro again x ⟨j,u,rfl,j1,hp⟩ hag
 have hxl:(l.take j++u::l.drop j).length=l.length+1:=by
  simp only [ar,ak,ah,aC]
  omega
 have htl:(l.take j).length=j:=by rw [ak];omega
 have hset: ∀ y:yO,(l.take j++u::l.drop j).set j y=l.take j++y::l.drop j:=fun y=>by
  have:=yfY (l.take j) u y (l.drop j)
  rwa [htl] at this
 unfold vC nz
 have done:yg2 m.1 l j=j→(if (0:Int)≤(j:Int) then if (j:Int)<((List.length (l.take j++u::l.drop j):Nat):Int) then some (List.set (l.take j++u::l.drop j) (Int.toNat (j:Int)) (m.1,m.2.1,m.2.2)) else none else none)=some (yl3 m l):=fun hj=>by
  rw [af (by omega),af (by rw [hxl];omega),aR,hset]
  unfold yl3
  rw [← hp,hj]
  rfl
 cases j with
 |zero=>
  simp only [ae,ac,am (show ¬ (((0:Nat):Int)>0) by omega),aa]
  exact done rfl
 |succ j=>
  have hw:Go.IntKind.wrap .i64 (((j+1:Nat):Int) - 1)=(j:Int):=by rw [w64 (by omega) (by omega)];omega
  have hrd:yG (l.take (j+1)++u::l.drop (j+1)) (j:Int)=l.getD j y0N:=by
   show (l.take (j+1)++u::l.drop (j+1)).getD ((j:Int)).toNat y0N=_
   rw [aR,au,au,aE (by rw [htl];omega),aD,af (by omega)]
  have hov:(!(Go.Op.bytesLess (ByteArray.toList ((l.getD j y0N).1)) (ByteArray.toList m.1)||(ByteArray.toList ((l.getD j y0N).1))==(ByteArray.toList m.1)))=ovM m.1 (l.getD j y0N):=rfl
  have heta:((l.getD j y0N).1,(l.getD j y0N).2.1,(l.getD j y0N).2.2)=l.getD j y0N:=rfl
  simp only [ae,ac,af (show ((j+1:Nat):Int)>0 by omega),hw,af (show (0:Int)≤(j:Int) by omega),af (show (j:Int)<((List.length (l.take (j+1)++u::l.drop (j+1)):Nat):Int) by rw [hxl];omega),af (show (0:Int)≤((j+1:Nat):Int) by omega),af (show ((j+1:Nat):Int)<((List.length (l.take (j+1)++u::l.drop (j+1)):Nat):Int) by rw [hxl];omega),hrd,hov,heta,aa,aR,hset]
  rw [yg2] at hp
  split
  ·rename_i ho
   rw [af ho] at hp
   refine hag _ ⟨j,l.getD j y0N,?_,by omega,hp⟩ (by simp only;omega)
   have e1:l.take (j+1)=l.take j++[l.getD j y0N]:=by
    rw [List.take_add_one]
    congr 1
    rw [aJ (by omega)]
    simp [show j<l.length by omega]
   have e2:l.drop j=l.getD j y0N::l.drop (j+1):=by
    rw [bP (by omega)]
    congr 1
    simp [show j<l.length by omega]
   rw [e1,e2,bo]
   rfl
  ·rename_i ho
   rw [am ho] at hp
   have:=done (by rw [yg2,am ho])
   rw [af (by omega),af (by rw [hxl];omega),aR,hset] at this
   exact this
end Go.Proofs.YtekbnpmmjciloaaGreat.Pl
namespace Go.Proofs.YtekbnpmmjciloaaGreat.Pl
open Go.Proofs.YtekbnpmmjciloaaGreat.R Go.Proofs.YtekbnpmmjciloaaGreat.XA
def MI (l:List yO):Prop:=l.length≤6∧ ∀ m∈l,ByteArray.size m.1≤60∧List.length m.2.2≤12
theorem MI.ms {l:List yO} (h:MI l):MS l:=⟨by have:=h.1;omega,fun m hm=>⟨(h.2 m hm).1,by have:=(h.2 m hm).2;omega⟩⟩
theorem MI.rd {l:List yO} (h:MI l) {i:Int} (h0:0≤i) (h1:i<(l.length:Int)):ByteArray.size (yG l i).1≤60∧List.length (yG l i).2.2≤12:=h.2 _ (z5 y0N l i h0 h1)
theorem MI.set {l:List yO} (h:MI l) (i:Nat) {m:yO} (h1:m.1.size≤60) (h2:List.length m.2.2≤12):MI (l.set i m):=
 ⟨by rw [aG];exact h.1,fun x hx=>(bg hx).elim (fun hx=>h.2 x hx) fun hx=>by rw [hx];exact ⟨h1,h2⟩⟩
theorem MI.ins {l:List yO} (h:MI l) {m:yO} (hl: ¬ (l.length:Int)≥6) (h1:m.1.size≤60) (h2:List.length m.2.2≤12):MI (yl3 m l):=by
 have hp:=ykH m.1 l l.length
 refine ⟨by simp only [yl3,ar,ak,aC,ah,aj];omega,fun x hx=> ?_⟩
 rcases aF.1 hx with hx|hx
 ·exact h.2 x (a0 hx)
 ·rcases aF.1 hx with hx|hx
  ·rw [aW.1 hx]
   exact ⟨h1,h2⟩
  ·exact h.2 x (a_ hx)
def Two (a b:Option (List yO×Int)):Prop:= ∃ r c,a=some (r,c)∧b=some (r,c)∧MI r
theorem y6i {l:List yO} (h:MI l) (c:Int):Two (some (l,c)) (some (l,c)):=⟨l,c,rfl,rfl,h⟩
section
variable {l:List yO} (h:MI l)
include h
theorem ytE (n:ByteArray) (s:Int) (hn:n.size≤60):Two (wk (l,n,s)) (wg (l,n,s)):=by
 have hm:n.size≤maxLen:=aO hn (by decide)
 unfold wk wg nz
 simp only [qV h.ms,qW h.ms,vK n h.ms,vL n h.ms,Y5 n hm,zH n hm,YP,Yd,aa]
 cases Z4 n with
 |false=>exact y6i h _
 |true=>
  simp only [ay,ag]
  cases decide (YR l n≥0) with
  |true=>exact y6i h _
  |false=>
   simp only [ag]
   cases hs:inR s 1 12 with
   |false=>exact y6i h _
   |true=>
    simp only [ay,ag]
    cases hl:decide (((List.length l:Nat):Int)≥6) with
    |true=>exact y6i h _
    |false=>
     have hs1:=zX.1 hs
     simp only [ag]
     rw [af (by omega),af (aH _),af (by omega),af (by omega),af (aH _),af (by omega)]
     simp only [y8n (l:=l) (n,false,_) h.ms,y8m (l:=l) (n,false,_) h.ms,aa]
     exact y6i (h.ins (bR hl) hn (by simp only [bm];omega)) 0
theorem yJL (n m:ByteArray) (f:Bool) (hn:n.size≤60) (hm:m.size≤60):Two (kz (l,n,m,f)) (kw (l,n,m,f)):=by
 have hn1:n.size≤maxLen:=aO hn (by decide)
 have hm1:m.size≤maxLen:=aO hm (by decide)
 unfold kz kw nz
 simp only [qV h.ms,qW h.ms,vK _ h.ms,vL _ h.ms,Y5 _ hn1,zH _ hn1,Y5 _ hm1,zH _ hm1,aa]
 have key: ∀ u:Bool,Two (bif u then some (l,(1:Int)) else bif decide (YR l n<0) then some (l,(2:Int)) else bif decide (YR l m≥0) then some (l,(3:Int)) else bif decide (((List.length l:Nat):Int)≥6) then some (l,(6:Int)) else if (0:Int)≤YR l n then if YR l n<((List.length l:Nat):Int) then Option.bind (Yn ((yG l (YR l n)).2.2)) fun r10=>Option.bind (Zs (l,m,f,r10)) fun r11=>some (r11,(0:Int)) else none else none)
   (bif u then some (l,(1:Int)) else bif decide (YR l n<0) then some (l,(2:Int)) else bif decide (YR l m≥0) then some (l,(3:Int)) else bif decide (((List.length l:Nat):Int)≥6) then some (l,(6:Int)) else if (0:Int)≤YR l n then if YR l n<((List.length l:Nat):Int) then if (List.length ([]:List y9)+List.length ((yG l (YR l n)).2.2))*8<140737488355328 then Option.bind (JN (l,m,f,(([]:List y9)++(yG l (YR l n)).2.2))) fun r7=>some (r7,(0:Int)) else none else none else none):=by
  intro u
  cases u with
  |true=>exact y6i h _
  |false=>
   simp only [ag]
   cases hx:decide (YR l n<0) with
   |true=>exact y6i h _
   |false=>
    simp only [ag]
    cases decide (YR l m≥0) with
    |true=>exact y6i h _
    |false=>
     simp only [ag]
     cases hl:decide (((List.length l:Nat):Int)≥6) with
     |true=>exact y6i h _
     |false=>
      have hx1:=bR hx
      have hx2:YR l n<((List.length l:Nat):Int):=by
       rcases qX l n with h1|h1<;>omega
      have hr:=h.rd (i:=YR l n) (by omega) hx2
      simp only [ag,aj,aK,aT]
      rw [af (by omega),af hx2,af (by omega),af hx2,af (by have:=hr.2;omega),ws _ (by have:=hr.2;omega),aa,y8m (l:=l) (m,f,_) h.ms,y8n (l:=l) (m,f,_) h.ms]
      exact y6i (h.ins (m:=(m,f,(yG l (YR l n)).2.2)) (bR hl) hm hr.2) 0
 cases Z4 n
 ·exact key true
 ·exact key _
theorem yJM (n:ByteArray) (hn:n.size≤60):Two (kC (l,n)) (kx (l,n)):=by
 have hm:n.size≤maxLen:=aO hn (by decide)
 have hl:=h.1
 unfold kC kx ZM nz
 simp only [qV h.ms,qW h.ms,vK n h.ms,vL n h.ms,Y5 n hm,zH n hm,aa]
 cases Z4 n with
 |false=>exact y6i h _
 |true=>
  simp only [ay,ag]
  cases hx:decide (YR l n<0) with
  |true=>exact y6i h _
  |false=>
   have hx1:=bR hx
   have hx2:YR l n<((List.length l:Nat):Int):=by
    rcases qX l n with h1|h1<;>omega
   have hw:Go.IntKind.wrap .i64 (YR l n+1)=YR l n+1:=w64 (by omega) (by omega)
   have e0:(((0:Int)) !=0)=false:=rfl
   have ht:(List.take (YR l n).toNat l).length≤6:=by rw [ak];omega
   have hd:(List.drop (YR l n+1).toNat l).length≤6:=by rw [aC];omega
   simp only [ag,aa,hw,Z6,e0,aj,aK,aT,show Int.toNat (0:Int)=0 from rfl,cN,aR,bF]
   rw [af (by omega),af (by omega),af (by omega),af (by omega),af (by omega),af (by omega),af (by omega),af (by omega),af (by omega),af (by omega),af (by omega),aa]
   refine y6i ⟨by rw [ar,ak,aC];omega,fun x hx=> ?_⟩ 0
   rcases aF.1 hx with hx|hx
   ·exact h.2 x (a0 hx)
   ·exact h.2 x (a_ hx)
theorem ypf (n:ByteArray) (b w:Int) (hn:n.size≤60):Two (Ji (l,n,b,w)) (Jg (l,n,b,w)):=by
 have hm:n.size≤maxLen:=aO hn (by decide)
 have hl:=h.1
 unfold Ji Jg ZM ZO nz
 simp only [yg0 h.ms,yg1 h.ms,vK n h.ms,vL n h.ms,Y5 n hm,zH n hm,YP,Yd,qb,y2Z,aa]
 cases Z4 n with
 |false=>exact y6i h _
 |true=>
  simp only [ay,ag]
  cases hx:decide (YR l n<0) with
  |true=>exact y6i h _
  |false=>
   have hx1:=bR hx
   have hx2:YR l n<((List.length l:Nat):Int):=by
    rcases qX l n with h1|h1<;>omega
   have e0:(((0:Int)) !=0)=false:=rfl
   have hx0:(0:Int)≤YR l n:=by omega
   have hr:=h.rd hx0 hx2
   simp only [ag,aa,e0,af hx0,af hx2]
   cases hf:(yG l (YR l n)).2.1 with
   |true=>exact y6i h _
   |false=>
    have hw:Go.IntKind.wrap .i64 (((List.length ((yG l (YR l n)).2.2):Nat):Int) - 1)=((List.length ((yG l (YR l n)).2.2):Nat):Int) - 1:=w64 (by omega) (by have:=hr.2;omega)
    simp only [ag,aa,e0,af hx0,af hx2,hw]
    cases hb:inR b 0 (((List.length ((yG l (YR l n)).2.2):Nat):Int) - 1) with
    |false=>exact y6i h _
    |true=>
     have hb1:=zX.1 hb
     simp only [ay,ag,aa]
     cases isW w with
     |false=>exact y6i h _
     |true=>
      simp only [ay,ag]
      rw [af hb1.1,af (by omega),af hb1.1,af (by omega)]
      rw [hf]
      exact y6i (h.set (YR l n).toNat (m:=((yG l (YR l n)).1,false,List.set (yG l (YR l n)).2.2 b.toNat w)) hr.1 (by simp only [aG];exact hr.2)) 0
theorem ytF (n:ByteArray) (s:Int) (hn:n.size≤60):Two (wl (l,n,s)) (wh (l,n,s)):=by
 have hm:n.size≤maxLen:=aO hn (by decide)
 have hl:=h.1
 unfold wl wh ZM ZO nz
 simp only [qV h.ms,qW h.ms,vK n h.ms,vL n h.ms,Y5 n hm,zH n hm,YP,Yd,aa]
 cases Z4 n with
 |false=>exact y6i h _
 |true=>
  simp only [ay,ag]
  cases hx:decide (YR l n<0) with
  |true=>exact y6i h _
  |false=>
   have hx1:=bR hx
   have hx2:YR l n<((List.length l:Nat):Int):=by
    rcases qX l n with h1|h1<;>omega
   have e0:(((0:Int)) !=0)=false:=rfl
   have hx0:(0:Int)≤YR l n:=by omega
   have hr:=h.rd hx0 hx2
   simp only [ag,aa,e0,af hx0,af hx2]
   cases hf:(yG l (YR l n)).2.1 with
   |true=>exact y6i h _
   |false=>
    simp only [ag,aa,e0,af hx0,af hx2]
    cases hb:inR s 1 12 with
    |false=>exact y6i h _
    |true=>
     have hb1:=zX.1 hb
     simp only [ay,ag,aa]
     rw [af (by omega),af (aH _),af (by omega)]
     generalize hL:(yG l (YR l n)).2.2=L at hr
     obtain ⟨T,hT⟩: ∃ T,T=List.take (List.length (List.replicate (Int.toNat s) y2d)) L++List.drop (List.length L) (List.replicate (Int.toNat s) y2d):=⟨_,rfl⟩
     have hTl:T.length=s.toNat:=by
      rw [hT]
      simp only [ar,ak,aC,bm]
      omega
     have hTb: ∀ b:Nat,b<s.toNat→T[b]? =some (if b<List.length L then zB L (b:Int) else 0):=fun b hb=>by
      rw [hT,bm]
      split
      ·rename_i h1
       rw [aE (by rw [ak];omega),aD,af hb]
       show _=some (L.getD ((b:Int)).toNat y2d)
       rw [aR,au,aJ h1]
       rfl
      ·rename_i h1
       rw [az (by rw [ak];omega),aZ,b8,af (by rw [ak];omega)]
       rfl
     rw [← hT]
     have hspec:kS (fun x5=>if (0:Int)≤x5.1 then if x5.1<((List.length x5.2.1:Nat):Int) then some ((List.set x5.2.1 (Int.toNat x5.1) ((yG x5.2.1 x5.1).1,(yG x5.2.1 x5.1).2.1,x5.2.2)),(0:Int)) else none else none) (l,s,YR l n,(0:Int),l,([]:List y9))=some ((List.set l (Int.toNat (YR l n)) ((yG l (YR l n)).1,(yG l (YR l n)).2.1,T)),(0:Int)):=by
      unfold kS
      refine Yc (step:=JP _) (fun x:JO=>s.toNat - x.2.2.2.1.toNat) (fun x=> ∃ b:Nat,b≤s.toNat∧x=(l,s,YR l n,(b:Int),l,T.take b)) (fun _ res=>res=some ((List.set l (Int.toNat (YR l n)) ((yG l (YR l n)).1,(yG l (YR l n)).2.1,T)),(0:Int))) ?_ _ ⟨0,by omega,rfl⟩ (by simp only;omega)
      rintro again x ⟨b,b1,rfl⟩ hag
      unfold JP nz
      simp only [ae,ac,af hx0,af hx2,hL]
      by_cases hbs:(b:Int)<s
      ·have hw:Go.IntKind.wrap .i64 ((b:Int)+1)=((b+1:Nat):Int):=by rw [w64 (by omega) (by omega)];omega
       have hlen:(List.length (T.take b)+1)*8<140737488355328:=by rw [ak];omega
       have hst: ∀ v,T[b]? =some v→T.take b++[v]=T.take (b+1):=fun v hv=>by rw [List.take_add_one,hv];rfl
       have hgo:=hag (l,s,YR l n,((b+1:Nat):Int),l,T.take (b+1)) ⟨b+1,by omega,rfl⟩ (by simp only;omega)
       rw [af hbs,hw]
       by_cases hbL:(b:Int)<((List.length L:Nat):Int)
       ·have e:=hst _ (hTb b (by omega))
        rw [af (by omega)] at e
        rw [af hbL,af (by omega),af hbL,e]
        rw [af (by simp only [ah,aj];exact hlen)]
        exact hgo
       ·have e:=hst _ (hTb b (by omega))
        rw [am (by omega)] at e
        rw [am hbL,e]
        rw [af (by simp only [ah,aj];exact hlen)]
        exact hgo
      ·have hbe:b=T.length:=by omega
       rw [am hbs,hbe,bF]
     rw [hspec]
     exact y6i (h.set (YR l n).toNat (m:=((yG l (YR l n)).1,(yG l (YR l n)).2.1,T)) hr.1 (by simp only [hTl];omega)) 0
theorem yeI (k:Int) (n m:ByteArray) (a b:Int) (hn:n.size≤60) (hm:m.size≤60):Two (Wp (l,k,n,m,a,b)) (Zl (l,k,n,m,a,b)):=by
 have hn1:n.size≤maxLen:=aO hn (by decide)
 have hm1:m.size≤maxLen:=aO hm (by decide)
 have es: ∀ {A:Type} (o:Option A),(Option.bind o fun r=>some r)=o:=fun o=>by cases o<;>rfl
 unfold Wp Zl nz
 simp only [qV h.ms,qW h.ms,y39 k n m a b hn1 hm1,y6g k n m a b hn1 hm1,aa,es]
 cases ype k n m a b with
 |false=>exact y6i h _
 |true=>
  simp only [ay,ag]
  cases k==(1:Int) with
  |true=>exact ytE h n a hn
  |false=>
   cases k==(2:Int) with
   |true=>exact yJL h n m _ hn hm
   |false=>
    cases k==(3:Int) with
    |true=>exact yJM h n hn
    |false=>
     cases k==(4:Int) with
     |true=>exact ypf h n a b hn
     |false=>
      cases k==(5:Int) with
      |true=>exact ypf h n a 0 hn
      |false=>
       cases k==(6:Int) with
       |true=>exact ytF h n a hn
       |false=>exact y6i h _
end
end Go.Proofs.YtekbnpmmjciloaaGreat.Pl
namespace Go.Proofs.YtekbnpmmjciloaaGreat.Pl
open Go.Proofs.YtekbnpmmjciloaaGreat.R Go.Proofs.YtekbnpmmjciloaaGreat.XA
theorem y5L (l:List y7) (id fr:Int):(JQ l id fr).1.length≤l.length+1:=by
 unfold JQ
 split
 ·exact cV _
 ·exact bX (y3r _ _)
theorem y5M {v u:yf}: ∀ {l:List yf},u∈WY v l→u=v∨u∈l
 |[],h=> .inl (by simpa [WY] using h)
 |w::r,h=>by
  rw [WY] at h
  split at h
  ·rcases aA.1 h with h|h
   ·exact .inl h
   ·exact .inr h
  ·rcases aA.1 h with h|h
   ·exact .inr (by simp [h])
   ·exact (y5M h).imp (fun h=>h) (fun h=>bI _ h)
section
variable {q:List y9} {t:List y0} {l:List y7} {cs:List y6} {vs:List yf} (z:Int) (h:SP q t l cs vs)
include h
theorem y8M:ye (q,t,l,cs,vs,z)=some (q,t,l,cs,vs,z):=wt q t l cs vs z h.S
theorem yhl (hp:yK q t l cs vs z=true):ytC vs:=by
 unfold yK at hp
 simp only [al] at hp
 exact yn8 hp.2.2.2.2.2.1
theorem ykI (hp:yK q t l cs vs z=true) {i:Int} (h0:0≤i) (h1:i<(vs.length:Int)):1≤(yd vs i).2.2.1∧(yd vs i).2.2.1≤12:=by
 unfold yK at hp
 simp only [al] at hp
 have hv:=hp.2.2.2.2.2.1
 unfold vF at hv
 simp only [al,bd] at hv
 obtain ⟨j,hj⟩:=y4j _ vs 0 hv.1 _ (z5 Yu vs _ h0 h1)
 unfold ykx at hj
 simp only [aL,bc,zX] at hj
 exact hj.2.1
theorem yg3 (n:ByteArray) (s:Int) (hn:n.size≤60):vi (q,t,l,cs,vs,z,n,s)=ju (q,t,l,cs,vs,z,n,s):=by
 unfold vi ju nz
 simp only [qd z h n (kH hn),wF z h,y8M z h,zW q t l cs vs z n h.S.2.2.2.2.2,qQ q t l cs vs z n h.S.2.2.2.2.2,YE z h,zH n (kH hn),YP,Yd,aa,yhj]
 unfold yeB
 cases hp:yK q t l cs vs z with
 |false=>rfl
 |true=>
  cases hno:Z4 n with
  |false=>rfl
  |true=>
   have hT:=y0B hp
   have hl:=hT.ll
   have hv:=hT.vl
   have e3:=y1d (n,z,s,false) vs
   have hS:SP q t (JQ l z 0).1 cs (WY (n,z,s,false) vs):=SP.of h.tq (by have:=y5L l z 0;omega) h.S.2.2.2.2.1 (by omega) fun v hv=>by
    rcases y5M hv with rfl|hv
    ·exact kH hn
    ·exact h.N v hv
   simp only [ay,ag,aa,and_self,aB,y0C l z 0 (by omega),y0D l z 0 (by omega),y1e vs n z s false (by omega),y3Y vs n z s false (by omega) (yhl z h hp),qU z h hS,y6h z h hS]
   rfl
theorem ykJ (n m:ByteArray) (f:Bool) (hn:n.size≤60) (hm:m.size≤60):QG (q,t,l,cs,vs,z,n,m,f)=wX (q,t,l,cs,vs,z,n,m,f):=by
 unfold QG wX nz
 simp only [qd z h n (kH hn),wF z h,y8M z h,zW q t l cs vs z _ h.S.2.2.2.2.2,qQ q t l cs vs z _ h.S.2.2.2.2.2,YE z h,zH n (kH hn),zH m (kH hm),Y5 m (kH hm),aa,yhj]
 unfold yeB
 cases hp:yK q t l cs vs z with
 |false=>rfl
 |true=>
  cases hno:Z4 n with
  |false=>rfl
  |true=>
   cases hmo:Z4 m with
   |false=>rfl
   |true=>
    have hT:=y0B hp
    have hl:=hT.ll
    have hv:=hT.vl
    simp only [ay,ag,aa,and_self,aB,show ((0:Int) !=0)=false from rfl]
    by_cases hi:yR vs n<0
    ·simp only [ax hi,ai]
    ·simp only [aw hi,ag]
     have hi':0≤yR vs n∧yR vs n<((List.length vs:Nat):Int):=by
      have:=Jw vs n
      omega
     cases hto:decide (yR vs m≥0) with
     |true=>rfl
     |false=>
      have hl1:=y5L l z (yd vs (yR vs n)).2.1
      have hl2:=y5L (JQ l z (yd vs (yR vs n)).2.1).1 (Go.IntKind.wrap .i64 (z+1)) (yd vs (yR vs n)).2.1
      simp only [ag,af hi'.1,af hi'.2,y0C l z _ (show l.length≤1000 by omega),y0D l z _ (show l.length≤1000 by omega),aa]
      rw [y0C _ _ _ (by omega),y0D _ _ _ (by omega)]
      simp only [aa]
      have hsv:ytC (vs.set (Int.toNat (yR vs n)) ((yd vs (yR vs n)).1,z,(yd vs (yR vs n)).2.2)):=ytD (yhl z h hp) _ _ rfl
      rw [y1e _ m _ _ f (by rw [aG];omega),y3Y _ m _ _ f (by rw [aG];omega) hsv]
      simp only [aa]
      have hS:SP q t (JQ (JQ l z (yd vs (yR vs n)).2.1).1 (Go.IntKind.wrap .i64 (z+1)) (yd vs (yR vs n)).2.1).1 cs (WY (m,Go.IntKind.wrap .i64 (z+1),(yd vs (yR vs n)).2.2.1,f) (vs.set (Int.toNat (yR vs n)) ((yd vs (yR vs n)).1,z,(yd vs (yR vs n)).2.2))):=SP.of h.tq (by omega) h.S.2.2.2.2.1 (by rw [y1d,aG];omega) fun v hv=>by
       rcases y5M hv with rfl|hv
       ·exact kH hm
       ·rcases bg hv with hv|rfl
        ·exact h.N v hv
        ·exact h.N (yd vs (yR vs n)) (z5 Yu vs _ hi'.1 hi'.2)
      have fin: ∀ b:Bool,zi (q,t,l,cs,vs,z,q,t,(JQ (JQ l z (yd vs (yR vs n)).2.1).1 (Go.IntKind.wrap .i64 (z+1)) (yd vs (yR vs n)).2.1).1,cs,WY (m,Go.IntKind.wrap .i64 (z+1),(yd vs (yR vs n)).2.2.1,f) (vs.set (Int.toNat (yR vs n)) ((yd vs (yR vs n)).1,z,(yd vs (yR vs n)).2.2)),Go.IntKind.wrap .i64 (z+2),b)=yS (q,t,l,cs,vs,z,q,t,(JQ (JQ l z (yd vs (yR vs n)).2.1).1 (Go.IntKind.wrap .i64 (z+1)) (yd vs (yR vs n)).2.1).1,cs,WY (m,Go.IntKind.wrap .i64 (z+1),(yd vs (yR vs n)).2.2.1,f) (vs.set (Int.toNat (yR vs n)) ((yd vs (yR vs n)).1,z,(yd vs (yR vs n)).2.2)),Go.IntKind.wrap .i64 (z+2),b):=fun b=>(qU z h hS b).trans (y6h z h hS b).symm
      cases (JQ l z (yd vs (yR vs n)).2.1).2
      ·exact fin false
      ·exact fin (JQ (JQ l z (yd vs (yR vs n)).2.1).1 (Go.IntKind.wrap .i64 (z+1)) (yd vs (yR vs n)).2.1).2
theorem ykK (n:ByteArray) (hn:n.size≤60):QH (q,t,l,cs,vs,z,n)=wY (q,t,l,cs,vs,z,n):=by
 unfold QH wY nz
 simp only [y4m z h n (kH hn),wF z h,y8M z h,zW q t l cs vs z n h.S.2.2.2.2.2,qQ q t l cs vs z n h.S.2.2.2.2.2,YE z h,zH n (kH hn),aa,yhj]
 unfold yDl
 cases hp:yK q t l cs vs z with
 |false=>rfl
 |true=>
  cases hno:Z4 n with
  |false=>rfl
  |true=>
   simp only [ay,ag,aa,and_self,aB]
   by_cases hi:yR vs n<0
   ·simp only [ax hi,ai,af hi]
    rfl
   ·have h2:=Jw vs n
    have hv:=h.S.2.2.2.2.2
    have hw:Go.IntKind.wrap .i64 (yR vs n+1)=yR vs n+1:=w64 (by omega) (by omega)
    simp only [aw hi,ag,am hi,show ((0:Int) !=0)=false from rfl,hw]
    rw [af (aH _),af (by omega),af (by omega),af (by omega),af (by omega),af (aH _),af (by simp only [ak,aC];omega)]
    rw [af (aH _),af (by omega),af (by omega),af (by simp only [aj,aC,ak];omega),af (by omega),af (by omega),af (aH _),af (by simp only [ar,aj,aC,ak];omega)]
    have e1:((([]:List yf)++(List.drop (Int.toNat (0:Int)) (List.take (Int.toNat (yR vs n)) vs)))++(List.drop (Int.toNat (yR vs n+1)) (List.take (Int.toNat ((List.length vs:Nat):Int)) vs)))=List.take (Int.toNat (yR vs n)) vs++List.drop (Int.toNat (yR vs n+1)) vs:=by
     rw [aR,bF]
     rfl
    rw [e1]
    have hS:SP q t l cs (List.take (Int.toNat (yR vs n)) vs++List.drop (Int.toNat (yR vs n+1)) vs):=SP.of h.tq h.S.2.2.2.1 h.S.2.2.2.2.1 (by simp only [ar,ak,aC];omega) fun v hv=>by
     rcases aF.1 hv with hv|hv
     ·exact h.N v (a0 hv)
     ·exact h.N v (a_ hv)
    rw [qU z h hS,y6h z h hS]
theorem yDn (k:y8):SP (yfZ q t l cs vs z k).2.1 (yfZ q t l cs vs z k).2.2.1 (yfZ q t l cs vs z k).2.2.2.1 (yfZ q t l cs vs z k).2.2.2.2.1 (yfZ q t l cs vs z k).2.2.2.2.2.1:=
 (WT k h.tq).sp h h.S.2.2.2.1 (by
  show (if _ then qB q t cs k else cs).length≤_
  split
  ·rw [y8i]
   exact h.S.2.2.2.2.1
  ·exact h.S.2.2.2.2.1)
theorem yin (n:ByteArray) (b w:Int) (hn:n.size≤60):VZ (q,t,l,cs,vs,z,n,b,w)=Jx (q,t,l,cs,vs,z,n,b,w):=by
 have htl:=y5c cs w
 have hS:SP q t l (vO cs w).1 vs:=SP.of h.tq h.S.2.2.2.1 (by rw [htl];exact h.S.2.2.2.2.1) h.S.2.2.2.2.2 h.N
 have main:jW q t l cs vs z n b=0→(bif (!(vO cs w).2.2) then some (q,t,l,cs,vs,z,(6:Int)) else if (0:Int)≤yR vs n then if yR vs n<((List.length vs:Nat):Int) then if (0:Int)≤(vO cs w).2.1 then if (vO cs w).2.1<((List.length (vO cs w).1:Nat):Int) then Option.bind (z3 (q,t,l,(vO cs w).1,vs,z,b,(yd vs (yR vs n)).2.1,(1:Int),(vO cs w).2.1,(ym (vO cs w).1 (vO cs w).2.1).1)) fun r8=>zi (q,t,l,cs,vs,z,r8.2.1,r8.2.2.1,r8.2.2.2.1,r8.2.2.2.2.1,r8.2.2.2.2.2.1,r8.2.2.2.2.2.2,r8.1) else none else none else none else none)=
   (bif (vO cs w).2.2 then if (0:Int)≤yR vs n then if yR vs n<((List.length vs:Nat):Int) then if (0:Int)≤(vO cs w).2.1 then if (vO cs w).2.1<((List.length (vO cs w).1:Nat):Int) then Option.bind (zE (q,t,l,(vO cs w).1,vs,z,b,(yd vs (yR vs n)).2.1,(1:Int),(vO cs w).2.1,(ym (vO cs w).1 (vO cs w).2.1).1)) fun r7=>yS (q,t,l,cs,vs,z,r7.2.1,r7.2.2.1,r7.2.2.2.1,r7.2.2.2.2.1,r7.2.2.2.2.2.1,r7.2.2.2.2.2.2,r7.1) else none else none else none else none else yS (q,t,l,cs,vs,z,q,t,l,(vO cs w).1,vs,z,false)):=by
  intro hb
  simp only [y8l z hS,y8k z hS,aa]
  have hP:=fun k=>yDn z hS k
  cases (vO cs w).2.2 with
  |false=>
   rw [y6h z h hS]
   rfl
  |true=>
   simp only [ay,ag,ai]
   have fin:=fun k=>(qU z h (hP k) (yfZ q t l (vO cs w).1 vs z k).1 (z':=(yfZ q t l (vO cs w).1 vs z k).2.2.2.2.2.2)).trans (y6h z h (hP k) _).symm
   split
   ·split
    ·split
     ·split
      ·exact fin _
      ·rfl
     ·rfl
    ·rfl
   ·rfl
 unfold VZ Jx nz
 simp only [WU z h n (kH hn),Vw z h n (kH hn),aB,wF z h,y8M z h,zW q t l cs vs z _ h.S.2.2.2.2.2,qb,y2Z,y1X cs w h.S.2.2.2.2.1,y1Y cs w h.S.2.2.2.2.1,aa,yhj]
 cases hb:jW q t l cs vs z n b==0 with
 |false=>
  have hne:(jW q t l cs vs z n b !=0)=true:=by
   rw [bne,hb]
   rfl
  simp only [ag,aa,hne,ai]
 |true=>
  have h0:jW q t l cs vs z n b=0:=by simpa using hb
  cases hw:isW w with
  |false=>rfl
  |true=>
   have hne:(jW q t l cs vs z n b !=0)=false:=by
    rw [bne,hb]
    rfl
   simp only [ai,aa,ay,ag,hne]
   exact main h0
theorem yeJ (n:ByteArray) (b:Int) (hn:n.size≤60):kq (q,t,l,cs,vs,z,n,b)=ZK (q,t,l,cs,vs,z,n,b):=by
 unfold kq ZK nz
 simp only [WU z h n (kH hn),Vw z h n (kH hn),aB,wF z h,y8M z h,zW q t l cs vs z _ h.S.2.2.2.2.2,aa,yhj,y3b z h]
 cases hb:jW q t l cs vs z n b !=0 with
 |true=>rfl
 |false=>
  have h0:jW q t l cs vs z n b=0:=by simpa using hb
  obtain ⟨hi,hp⟩:=yct z h0
  obtain ⟨r,q',t',cs',e1,h1⟩:=Jz z h (yR vs n) b hi.1 hi.2
  simp only [ag,e1,aa]
  rw [qU z h h1,y6h z h h1]
end
end Go.Proofs.YtekbnpmmjciloaaGreat.Pl
namespace Go.Proofs.YtekbnpmmjciloaaGreat.Pl
open Go.Proofs.YtekbnpmmjciloaaGreat.R Go.Proofs.YtekbnpmmjciloaaGreat.XA
def y3t {A:Type} (q:List y9) (t:List y0) (l:List y7) (cs:List y6) (vs:List yf) (z:Int) (o:Option (List y9×List y0×List y7×List y6×List yf×Int×A)):Prop:=
 ∃ q' t' l' cs' vs' z' c,o=some (q',t',l',cs',vs',z',c)∧(Tn q' t' l' cs' vs'∨(q',t',l',cs',vs',z')=(q,t,l,cs,vs,z))
section
variable {q:List y9} {t:List y0} {l:List y7} {cs:List y6} {vs:List yf} {z:Int}
theorem Res.a {o:Option P7a} (h:Res q t l cs vs z o):y3t q t l cs vs z o:=by
 obtain ⟨q',t',l',cs',vs',z',c,e,hc⟩:=h
 exact ⟨q',t',l',cs',vs',z',c,e,hc.imp y0B id⟩
theorem y3t.same {A:Type} (c:A):y3t q t l cs vs z (some (q,t,l,cs,vs,z,c)):=⟨_,_,_,_,_,_,c,rfl,.inr rfl⟩
theorem y3t.tn {A:Type} (c:A) {q':List y9} {t':List y0} {l':List y7} {cs':List y6} {vs':List yf} {z':Int} (h:Tn q' t' l' cs' vs'):y3t q t l cs vs z (some (q',t',l',cs',vs',z',c)):=⟨_,_,_,_,_,_,c,rfl,.inl h⟩
theorem Tn.pack (h:Tn q t l cs vs) {i:Int} (h0:0≤i) (h1:i<(t.length:Int)):Tn q (t.set i.toNat (zU (zo (yk t i)))) l cs vs:=by
 refine ⟨h.ql,⟨by rw [aG];exact h.T.len,fun n hn=> ?_⟩,h.ll,h.cl,h.vl,h.N,by rw [aG];exact h.e,by rw [aG];exact h.p⟩
 rcases bg hn with hn|rfl
 ·exact h.T.node n hn
 ·exact y19 (nk h.T h0 h1).keys
end
section
variable {q:List y9} {t:List y0} {l:List y7} {cs:List y6} {vs:List yf} (z:Int) (h:SP q t l cs vs)
include h
theorem yg4 (i:Int):y3t q t l cs vs z (YI (q,t,l,cs,vs,z,i)):=by
 unfold YI nz
 simp only [wF z h,Ys z h,YP,aa]
 cases hp:yK q t l cs vs z with
 |false=>
  simp only [bf,ai,aa]
  exact y3t.same _
 |true=>
  have hT:=y0B hp
  simp only [ay,ag,aa]
  cases hi:inR i 0 (Go.IntKind.wrap .i64 (((List.length t:Nat):Int) - (1:Int))) with
  |false=>
   simp only [bf,ai]
   exact y3t.same _
  |true=>
   have hl:=hT.T.len
   have hw:Go.IntKind.wrap .i64 (((List.length t:Nat):Int) - (1:Int))=((List.length t:Nat):Int) - 1:=w64 (by omega) (by omega)
   have hi2:=hi
   rw [hw,zX] at hi
   simp only [ay,ag]
   unfold J6 W5 nz
   have hk:=nk hT.T hi.1 (show i<(t.length:Int) by omega)
   simp only [VI q t h.S.1 h.S.2.1 (fun n hn=>K9 h.S.2.2.1 hn),YP,hi2,aa,ai]
   simp only [af hi.1,af (show i<((List.length t:Nat):Int) by omega),Vv hT.T hi.1 (show i<(t.length:Int) by omega),Jt (zo (yk t i)) (aO hk.keys (by decide)),aa]
   exact y3t.tn _ (hT.pack hi.1 (by omega))
theorem yn9 (i:Int): ∃ a b c d e,JI (q,t,l,cs,vs,z,i)=some (a,b,c,d,e):=by
 have hq:=h.tq
 have hk:=ydF t
 have hs3:=h.S.2.2.1
 unfold JI Qv nz
 simp only [YX q t (by have:=h.S.2.1;omega) (fun n hn=>by have:=(K9 h.S.2.2.1 hn).1;omega) h.S.2.2.1,aa]
 refine Yc (step:=ZU _ _) (fun u:KF=>(yW t).length - u.2.1.toNat) (fun u=>u.2.2.2.2.2.2.2=yW t∧0≤u.2.1∧u.2.1≤(yW t).length) (fun _ (res:Option (Int×Int×Int×Int×Int))=> ∃ a b c d e:Int,res=some (a,b,c,d,e)) ?_ (i,0,0,0,0,0,0,yW t) ⟨rfl,aH _,by simp⟩ (by simp only;omega)
 rintro again ⟨i1,j,a,b,c,d,e,ks⟩ ⟨e1,h0,h1⟩ hag
 simp only at e1 h0 h1 hag ⊢
 subst e1
 unfold ZU nz
 simp only [ae,ac]
 by_cases hj:j<((yW t).length:Int)
 ·have hw:Go.IntKind.wrap .i64 (j+1)=j+1:=w64 (by omega) (by omega)
  simp only [af hj,af h0,hw,aa]
  split
  ·simp only [aa]
   split
   ·exact ⟨_,_,_,_,_,rfl⟩
   ·exact hag _ ⟨rfl,by simp only;omega,by simp only;omega⟩ (by simp only;omega)
  ·simp only [aa,aX,aU]
   exact hag _ ⟨rfl,by simp only;omega,by simp only;omega⟩ (by simp only;omega)
 ·simp only [am hj]
  exact ⟨_,_,_,_,_,rfl⟩
theorem yg5 (i:Int):y3t q t l cs vs z (YJ (q,t,l,cs,vs,z,i)):=by
 unfold YJ nz
 simp only [wF z h,Ys z h,YP,aa]
 cases hp:yK q t l cs vs z with
 |false=>
  simp only [bf,ai,aa]
  exact y3t.same _
 |true=>
  have hT:=y0B hp
  have hcl:=hT.cl
  simp only [ay,ag,aa]
  have hw:Go.IntKind.wrap .i64 (((List.length cs:Nat):Int) - (1:Int))=((List.length cs:Nat):Int) - 1:=w64 (by omega) (by omega)
  rw [hw]
  cases hi:inR i 0 (((List.length cs:Nat):Int) - 1) with
  |false=>
   simp only [bf,ai,aa]
   exact y3t.same _
  |true=>
   rw [zX] at hi
   simp only [ay,ag,af hi.1,af (show i<((List.length cs:Nat):Int) by omega),aa]
   obtain ⟨a,b,c,d,e,e1⟩:=yn9 z h i
   obtain ⟨cs',j,u,e2,h1,h2⟩:=y4n cs (ym cs i).2.2 h.S.2.2.2.2.1
   have hq:=h.tq
   have hT2:=WT (a,b,c,j,(ym cs' j).1) hq
   have hc':cs'.length≤1048576:=by rw [h1];exact h.S.2.2.2.2.1
   cases (ym cs i).2.1 with
   |false=>
    simp only [bf,ai]
    exact y3t.same _
   |true=>
    simp only [ay,ag,e1,e2,aa]
    cases u with
    |false=>
     simp only [bf,ai,aa]
     exact y3t.same _
    |true=>
     have h3:=h2 rfl
     simp only [ay,ag,aa]
     cases decide (j>i) with
     |true=>
      simp only [ai]
      exact y3t.same _
     |false=>
      have hx:SP (yw q t (a,b,c,j,(ym cs' j).1)).1 (yw q t (a,b,c,j,(ym cs' j).1)).2.1 l (y6A cs' i) vs:=hT2.sp h h.S.2.2.2.1 (by rw [y38];exact hc')
      simp only [ag,af h3.1,af (show j<((List.length cs':Nat):Int) by rw [h1];exact h3.2),Zn q t a b c j (ym cs' j).1 hq.T hq.Q hq.q,jk cs' i hc',Ys z hx,aa]
      cases (yw q t (a,b,c,j,(ym cs' j).1)).2.2 with
      |false=>
       simp only [bf,ai,aa]
       exact y3t.same _
      |true=>
       simp only [ay,ag,aa]
       cases hp2:yK (yw q t (a,b,c,j,(ym cs' j).1)).1 (yw q t (a,b,c,j,(ym cs' j).1)).2.1 l (y6A cs' i) vs z with
       |false=>
        simp only [bf,ai]
        exact y3t.same _
       |true=>
        simp only [ay,ag]
        exact y3t.tn _ (y0B hp2)
theorem yeK:y3t q t l cs vs z (YV (q,t,l,cs,vs,z)):=by
 rw [y1c z h]
 have key:ye8 (y59 q t l cs vs z).1=true∨(y59 q t l cs vs z).1=(q,t,l,cs,vs,z):=by
  unfold y59
  split
  ·split
   ·exact .inr rfl
   ·unfold ye9
    split
    ·rename_i hh
     rw [al] at hh
     exact .inl hh.2
    ·exact .inr rfl
  ·exact .inr rfl
 unfold y5a
 rcases key with hk|hk
 ·exact y3t.tn _ (y0B hk)
 ·rw [hk]
  exact y3t.same _
theorem yhm (k:Int) (n m:ByteArray) (a b:Int) (hn:n.size≤60) (hm:m.size≤60):y3t q t l cs vs z (zQ (q,t,l,cs,vs,z,k,n,m,a,b)):=by
 unfold zQ kj nz
 simp only [y39 k n m a b (kH hn) (kH hm),Ys z h,wF z h,aa,yty,yJJ,yhj]
 have key: ∀ u:Bool,y3t q t l cs vs z (bif u then some (q,t,l,cs,vs,z,(1:Int)) else bif (k==(1:Int)) then ju (q,t,l,cs,vs,z,n,a) else bif (k==(2:Int)) then wX (q,t,l,cs,vs,z,n,m,(b==(1:Int))) else bif (k==(3:Int)) then wY (q,t,l,cs,vs,z,n) else bif (k==(4:Int)) then Jx (q,t,l,cs,vs,z,n,a,b) else bif (k==(5:Int)) then ZK (q,t,l,cs,vs,z,n,a) else bif (k==(6:Int)) then jw (q,t,l,cs,vs,z,n,a) else
   Option.bind (bif (k==(7:Int)) then YV (q,t,l,cs,vs,z) else bif (k==(8:Int)) then YI (q,t,l,cs,vs,z,a) else YJ (q,t,l,cs,vs,z,a)) fun r11=>bif (!r11.2.2.2.2.2.2) then some (r11.1,r11.2.1,r11.2.2.1,r11.2.2.2.1,r11.2.2.2.2.1,r11.2.2.2.2.2.1,(2:Int)) else some (r11.1,r11.2.1,r11.2.2.1,r11.2.2.2.1,r11.2.2.2.2.1,r11.2.2.2.2.2.1,(0:Int))):=by
  intro u
  refine Jv (P:=y3t q t l cs vs z) _ (fun _=>y3t.same _) fun _=>Jv (P:=y3t q t l cs vs z) _ (fun _=>(ykD z h n a hn).a) fun _=>Jv (P:=y3t q t l cs vs z) _ (fun _=>(ytz z h n m _ hn hm).a) fun _=>Jv (P:=y3t q t l cs vs z) _ (fun _=>(ytA z h n hn).a) fun _=>Jv (P:=y3t q t l cs vs z) _ (fun _=>(yn7 z h n a b hn).a) fun _=>Jv (P:=y3t q t l cs vs z) _ (fun _=>(yij z h n a hn).a) fun _=>Jv (P:=y3t q t l cs vs z) _ (fun _=>(ykF z h n a hn).a) fun _=> ?_
  have hs:y3t q t l cs vs z (bif (k==(7:Int)) then YV (q,t,l,cs,vs,z) else bif (k==(8:Int)) then YI (q,t,l,cs,vs,z,a) else YJ (q,t,l,cs,vs,z,a)):=
   Jv (P:=y3t q t l cs vs z) _ (fun _=>yeK z h) fun _=>Jv (P:=y3t q t l cs vs z) _ (fun _=>yg4 z h a) fun _=>yg5 z h a
  obtain ⟨q',t',l',cs',vs',z',c,e,hc⟩:=hs
  rw [e]
  cases c
  ·exact ⟨_,_,_,_,_,_,_,rfl,hc⟩
  ·exact ⟨_,_,_,_,_,_,_,rfl,hc⟩
 cases ype k n m a b
 ·exact key true
 ·exact key _
end
end Go.Proofs.YtekbnpmmjciloaaGreat.Pl
namespace Go.Proofs.YtekbnpmmjciloaaGreat.Pl
open Go.Proofs.YtekbnpmmjciloaaGreat.R Go.Proofs.YtekbnpmmjciloaaGreat.XA
theorem yhn (c:List Int) (p s:Int) (L:List ByteArray) (hL:0<L.length) (hL2:L.length≤1048576) (hs: ∀ t∈L,t.size≤60) (h:YQ c p):jP (Jy (c,p,s,L)) c (fun v=>v.size≤60):=by
 obtain ⟨v,p1,s1,e1,h1,q1⟩:=zt c p s (L.length:Int) h
 have:=q1.2 (by omega)
 unfold Jy nz
 rw [e1]
 simp only [aa]
 rw [af q1.1,af this]
 exact ⟨_,_,_,rfl,h1,hs _ (z5 ylL L v q1.1 this)⟩
theorem ytG (c:List Int) (p s:Int) (h:YQ c p):jP (ZE (c,p,s)) c (fun v=>v.size≤60):=by
 obtain ⟨v,p1,s1,e1,h1,q1⟩:=yhn c p s [{data:= #[97]},{data:= #[98]},{data:= #[99]},{data:= #[100]},{data:= #[101,53]}] (by simp) (by simp) (by decide) h
 unfold ZE nz
 rw [e1]
 exact ⟨_,_,_,rfl,h1,q1⟩
theorem ykL (c:List Int) (p s:Int) (h:YQ c p):jP (WM (c,p,s)) c (fun v=>v.size≤60):=by
 obtain ⟨v,p1,s1,e1,h1,q1⟩:=yhn c p s [{data:= #[]},{data:= #[97]},{data:= #[98,49]},{data:= #[115,105,120,108,101,116]},{data:= #[115,101,118,101,110,108,101]},{data:= #[65]},{data:= #[97,32,98]},{data:= #[0]},{data:= #[104,101,108,108,111]}] (by simp) (by simp) (by decide) h
 unfold WM nz
 rw [e1]
 exact ⟨_,_,_,rfl,h1,q1⟩
theorem ypg (c:List Int) (p s:Int) (h:YQ c p):jP (K6 (c,p,s)) c (fun _=>True):=by
 obtain ⟨v,p1,s1,e1,h1,q1⟩:=WX c p s [0,1,7,255,256,4660,65535,65536,-1,9223372036854775807,-9223372036854775808] (by simp) (by simp) h
 unfold K6 nz
 rw [e1]
 exact ⟨_,_,_,rfl,h1,trivial⟩
theorem yna (c:List Int) (p s:Int) (h:YQ c p):jP (ZF (c,p,s)) c (fun _=>True):=by
 obtain ⟨v,p1,s1,e1,h1,q1⟩:=zt c p s 200 h
 unfold ZF nz
 rw [e1]
 simp only [aa]
 obtain ⟨v2,p2,s2,e2,h2,q2⟩:=WX c p1 s1 [0,1,2,7,65535,Go.IntKind.wrap .i64 (1+v)] (by simp) (by simp) h1
 rw [e2]
 exact ⟨_,_,_,rfl,h2,trivial⟩
def y1f (o:Option (Int×ByteArray×ByteArray×Int×Int×List Int×Int×Int)) (c:List Int):Prop:= ∃ k n t a b p s,o=some (k,n,t,a,b,c,p,s)∧YQ c p∧ByteArray.size n≤60∧ByteArray.size t≤60
theorem yDo {c:List Int} {p s:Int} {L:List Int} {k b:Int} {n t:ByteArray} (hL:0<L.length) (hL2:L.length≤1048576) (h:YQ c p) (hn:n.size≤60) (ht:t.size≤60):
  y1f (Option.bind (yz (c,p,s,L)) fun r=>some (k,n,t,r.1,b,r.2.1,r.2.2.1,r.2.2.2)) c:=by
 obtain ⟨v,p1,s1,e1,h1,_⟩:=WX c p s L hL hL2 h
 rw [e1]
 exact ⟨_,_,_,_,_,_,_,rfl,h1,hn,ht⟩
theorem yDp {c:List Int} {p s m:Int} {k b:Int} {n t:ByteArray} (h:YQ c p) (hn:n.size≤60) (ht:t.size≤60):
  y1f (Option.bind (yb (c,p,s,m)) fun r=>some (k,n,t,r.1,b,r.2.1,r.2.2.1,r.2.2.2)) c:=by
 obtain ⟨v,p1,s1,e1,h1,_⟩:=zt c p s m h
 rw [e1]
 exact ⟨_,_,_,_,_,_,_,rfl,h1,hn,ht⟩
theorem yDq {c:List Int} {p s:Int} {L:List Int} {k a:Int} {n:ByteArray} (hL:0<L.length) (hL2:L.length≤1048576) (h:YQ c p) (hn:n.size≤60):
  y1f (Option.bind (ZE (c,p,s)) fun r4=>Option.bind (yz (r4.2.1,r4.2.2.1,r4.2.2.2,L)) fun r5=>some (k,n,r4.1,a,r5.1,r5.2.1,r5.2.2.1,r5.2.2.2)) c:=by
 obtain ⟨v,p1,s1,e1,h1,q1⟩:=ytG c p s h
 rw [e1]
 simp only [aa]
 obtain ⟨v2,p2,s2,e2,h2,_⟩:=WX c p1 s1 L hL hL2 h1
 rw [e2]
 exact ⟨_,_,_,_,_,_,_,rfl,h2,hn,q1⟩
theorem yDr {c:List Int} {p s m:Int} {k:Int} {n t:ByteArray} (h:YQ c p) (hn:n.size≤60) (ht:t.size≤60):
  y1f (Option.bind (yb (c,p,s,m)) fun r6=>Option.bind (ZF (r6.2.1,r6.2.2.1,r6.2.2.2)) fun r7=>some (k,n,t,r6.1,r7.1,r7.2.1,r7.2.2.1,r7.2.2.2)) c:=by
 obtain ⟨v,p1,s1,e1,h1,_⟩:=zt c p s m h
 rw [e1]
 simp only [aa]
 obtain ⟨v2,p2,s2,e2,h2,_⟩:=yna c p1 s1 h1
 rw [e2]
 exact ⟨_,_,_,_,_,_,_,rfl,h2,hn,ht⟩
theorem yeL {c:List Int} {p s k a b:Int} {n t:ByteArray} (h:YQ c p) (hn:n.size≤60) (ht:t.size≤60):y1f (some (k,n,t,a,b,c,p,s)) c:=⟨_,_,_,_,_,_,_,rfl,h,hn,ht⟩
theorem yJN:(⟨#[]⟩:ByteArray).size≤60:=by decide
theorem yT {A:Type} {P:A→Prop} (b:Bool) {x y:A} (hx:P x) (hy:P y):P (bif b then x else y):=by cases b<;>assumption
theorem ynb (c:List Int) (p s:Int) (h:YQ c p):y1f (Y3 (c,p,s)) c:=by
 unfold Y3 nz
 obtain ⟨v,p1,s1,e1,h1,_⟩:=WX c p s [1,1,1,2,2,3,4,4,4,4,4,4,5,6,7,7,8,9] (by simp) (by simp) h
 rw [e1]
 simp only [aa]
 obtain ⟨n,p2,s2,e2,h2,hn⟩:=yhn c p1 s1 [{data:= #[97]},{data:= #[97]},{data:= #[98]},{data:= #[99]},{data:= #[100]}] (by simp) (by simp) (by decide) h1
 rw [e2]
 simp only [aa]
 have hz:=yJN
 repeat' (first
  |with_reducible refine yT (P:=fun o=>y1f o c) _ ?_ ?_
  |with_reducible exact yDo (by simp) (by simp) h2 hn hz
  |with_reducible exact yDo (by simp) (by simp) h1 hz hz
  |with_reducible exact yDq (by simp) (by simp) h2 hn
  |with_reducible exact yDq (by simp) (by simp) h1 hz
  |with_reducible exact yDr h2 hn hz
  |with_reducible exact yDr h1 hz hz
  |with_reducible exact yDp h2 hn hz
  |with_reducible exact yDp h1 hz hz
  |with_reducible exact yeL h2 hn hz
  |with_reducible exact yeL h1 hz hz)
theorem yho (c:List Int) (p s:Int) (h:YQ c p):y1f (WN (c,p,s)) c:=by
 obtain ⟨k,n,t,a,b,p1,s1,e1,h1,hn,ht⟩:=ynb c p s h
 unfold WN nz
 rw [e1]
 simp only [aa]
 obtain ⟨v,p2,s2,e2,h2,_⟩:=zt c p1 s1 10 h1
 rw [e2]
 simp only [aa]
 refine yT (P:=fun o=>y1f o c) _ ?_ (yT (P:=fun o=>y1f o c) _ ?_ (yT (P:=fun o=>y1f o c) _ ?_ (yT (P:=fun o=>y1f o c) _ ?_ (yT (P:=fun o=>y1f o c) _ ?_ (yeL h2 hn ht)))))
 ·obtain ⟨v3,p3,s3,e3,h3,_⟩:=WX c p2 s2 [0,10,3,7,-1] (by simp) (by simp) h2
  rw [e3]
  exact yeL h3 hn ht
 ·obtain ⟨v3,p3,s3,e3,h3,q3⟩:=ykL c p2 s2 h2
  rw [e3]
  exact yeL h3 q3 ht
 ·obtain ⟨v3,p3,s3,e3,h3,q3⟩:=ykL c p2 s2 h2
  rw [e3]
  exact yeL h3 hn q3
 ·obtain ⟨v3,p3,s3,e3,h3,_⟩:=ypg c p2 s2 h2
  rw [e3]
  exact yeL h3 hn ht
 ·obtain ⟨v3,p3,s3,e3,h3,_⟩:=ypg c p2 s2 h2
  rw [e3]
  exact yeL h3 hn ht
end Go.Proofs.YtekbnpmmjciloaaGreat.Pl
namespace Go.Proofs.YtekbnpmmjciloaaGreat.Pl
open Go.Proofs.YtekbnpmmjciloaaGreat.R Go.Proofs.YtekbnpmmjciloaaGreat.XA
def y1E (o:Option (Int×Int×Int×Int×Int×List Int×Int×Int)) (c:List Int):Prop:= ∃ a b k d g p s,o=some (a,b,k,d,g,c,p,s)∧YQ c p
theorem y3u (c:List Int) (p s:Int) (h:YQ c p):y1E (Yv (c,p,s)) c:=by
 obtain ⟨v1,p1,s1,e1,h1,q1⟩:=zt c p s 4 h
 obtain ⟨v2,p2,s2,e2,h2,q2⟩:=zt c p1 s1 5 h1
 obtain ⟨v3,p3,s3,e3,h3,q3⟩:=WX c p2 s2 [0,1,1,1,2] (by simp) (by simp) h2
 obtain ⟨v4,p4,s4,e4,h4,q4⟩:=zt c p3 s3 24 h3
 obtain ⟨v5,p5,s5,e5,h5,q5⟩:=WX c p4 s4 [0,1,256,999] (by simp) (by simp) h4
 unfold Yv nz
 simp only [e1,e2,e3,e4,e5,aa]
 exact yT (P:=fun o=>y1E o c) _ ⟨_,_,_,_,_,_,_,rfl,h5⟩ ⟨_,_,_,_,_,_,_,rfl,h3⟩
theorem ytH (c:List Int) (p s:Int) (h:YQ c p):y1E (VT (c,p,s)) c:=by
 obtain ⟨a,b,k,d,g,p1,s1,e1,h1⟩:=y3u c p s h
 obtain ⟨v2,p2,s2,e2,h2,q2⟩:=zt c p1 s1 12 h1
 obtain ⟨v3,p3,s3,e3,h3,q3⟩:=WX c p2 s2 [-1,15,16] (by simp) (by simp) h2
 obtain ⟨v4,p4,s4,e4,h4,q4⟩:=WX c p2 s2 [0,60,61] (by simp) (by simp) h2
 obtain ⟨v5,p5,s5,e5,h5,q5⟩:=WX c p2 s2 [-1,3] (by simp) (by simp) h2
 obtain ⟨v6,p6,s6,e6,h6,q6⟩:=WX c p2 s2 [-1,1,23,24] (by simp) (by simp) h2
 obtain ⟨v7,p7,s7,e7,h7,q7⟩:=WX c p2 s2 [-1,1,999,1000] (by simp) (by simp) h2
 unfold VT nz
 simp only [e1,e2,e3,e4,e5,e6,e7,aa]
 exact yT (P:=fun o=>y1E o c) _ ⟨_,_,_,_,_,_,_,rfl,h3⟩ (yT (P:=fun o=>y1E o c) _ ⟨_,_,_,_,_,_,_,rfl,h4⟩ (yT (P:=fun o=>y1E o c) _ ⟨_,_,_,_,_,_,_,rfl,h5⟩ (yT (P:=fun o=>y1E o c) _ ⟨_,_,_,_,_,_,_,rfl,h6⟩ (yT (P:=fun o=>y1E o c) _ ⟨_,_,_,_,_,_,_,rfl,h7⟩ ⟨_,_,_,_,_,_,_,rfl,h2⟩))))
theorem yJO (c:List Int) (p s:Int) (h:YQ c p):y1E (VS (c,p,s)) c:=by
 obtain ⟨a,b,k,d,g,p1,s1,e1,h1⟩:=y3u c p s h
 obtain ⟨v2,p2,s2,e2,h2,q2⟩:=zt c p1 s1 12 h1
 unfold VS nz
 simp only [e1,e2,aa]
 exact ⟨_,_,_,_,_,_,_,rfl,h2⟩
theorem ytI (c:List Int) (p s m:Int) (h:YQ c p) (m0:0≤m) (m1:m≤100):jP (KN (c,p,s,m)) c (fun l=>l.length≤101):=by
 obtain ⟨v1,p1,s1,e1,h1,q1⟩:=zt c p s (m+1) h
 have b1:=q1.2 (by omega)
 unfold KN y2z nz
 try simp only []
 rw [show Go.IntKind.wrap .i64 (m+1)=m+1 from w64 (by omega) (by omega),e1]
 simp only [aa]
 refine Yc (step:=KM _) (fun u:KL=>u.1.toNat) (fun u=> ∃ k l p s,u=(k,c,p,s,l)∧YQ c p∧0≤k∧(List.length l:Int)+k≤101) (fun _ (res:Option (List y8×List Int×Int×Int))=>jP res c (fun l:List y8=>l.length≤101)) ?_ (v1,c,p1,s1,[]) ⟨v1,[],p1,s1,rfl,h1,q1.1,by simp;omega⟩ (by simp only;omega)
 rintro again _ ⟨k,l,p,s,rfl,hc,hk,hl⟩ hag
 unfold KM nz
 simp only [ae,ac]
 by_cases hk2:k>0
 ·obtain ⟨a,b,kk,d,g,p2,s2,e2,h2⟩:=y3u c p s hc
  have hs:=WQ l (a,b,kk,d,g)
  have hw:Go.IntKind.wrap .i64 (k - 1)=k - 1:=w64 (by omega) (by omega)
  simp only [af hk2,e2,aa,kD l a b kk d g (by omega),hw]
  exact hag _ ⟨_,_,_,_,rfl,h2,by omega,by omega⟩ (by simp only;omega)
 ·simp only [am hk2]
  exact ⟨_,_,_,rfl,hc,by simp only;omega⟩
theorem yio (c:List Int) (p s m:Int) (h:YQ c p) (m0:0≤m) (m1:m≤100):jP (VU (c,p,s,m)) c (fun l=>l.length≤102):=by
 obtain ⟨l,p1,s1,e1,h1,q1⟩:=ytI c p s m h m0 m1
 obtain ⟨v2,p2,s2,e2,h2,q2⟩:=zt c p1 s1 8 h1
 obtain ⟨a,b,k,d,g,p3,s3,e3,h3⟩:=ytH c p2 s2 h2
 unfold VU nz
 simp only [e1,e2,e3,aa]
 refine yT (P:=fun o=>jP o c (fun l:List y8=>l.length≤102)) _ ?_ (yT (P:=fun o=>jP o c (fun l:List y8=>l.length≤102)) _ (Jv (P:=fun o=>jP o c (fun l:List y8=>l.length≤102)) _ (fun hh=> ?_) fun _=>⟨_,_,_,rfl,h2,by omega⟩) ⟨_,_,_,rfl,h2,by omega⟩)
 ·rw [af (by simp only [ah,aj];omega)]
  exact ⟨_,_,_,rfl,h3,by simp only [ar,ah,aj];omega⟩
 ·have hh:=cO hh
  simp only [aG,af (aH (0:Int)),af (show (0:Int)<((List.length l:Nat):Int) by omega),af (show (0:Int)≤1 by omega),af (show (1:Int)<((List.length l:Nat):Int) by omega)]
  exact ⟨_,_,_,rfl,h2,by simp only [aG];omega⟩
def Nsm (n:List ya) (a:Nat) (b:Int):Prop:=n.length≤a∧K7 QX n≤b
theorem Nsm.ns {n:List ya} {a:Nat} {b:Int} (h:Nsm n a b) (ha:a≤900) (hb:b≤900):NS n:=⟨aO h.1 (by omega),by have:=h.2;omega⟩
theorem yg6 (n:List ya) (k:y8) (h:Nsm n 3 8):Nsm (zV n k).1 3 8:=by
 unfold zV
 split
 ·rename_i hh
  exact ⟨(Ju hh).1,(Ju hh).2.1⟩
 ·split
  ·exact h
  ·split
   ·rename_i hh
    exact ⟨(Ju hh).1,(Ju hh).2.1⟩
   ·exact h
theorem ync (c:List Int) (p s:Int) (h:YQ c p):jP (KK (c,p,s)) c (fun n:List ya=>Nsm n 3 8):=by
 obtain ⟨v1,p1,s1,e1,h1,q1⟩:=zt c p s 12 h
 have b1:=q1.2 (by omega)
 have z0:Nsm [] 3 8:=⟨by simp,by simp [K7]⟩
 unfold KK y2y nz
 rw [e1]
 simp only [aa]
 refine Yc (step:=W6 _ _) (fun u:KJ=>match u with| .inl u=>u.1.toNat| .inr u=>u.1.toNat) (fun u=>match u with| .inl u=> ∃ k p s,u=(k,c,p,s)∧YQ c p∧0≤k∧k≤100| .inr u=> ∃ k n p s,u=(k,c,p,s,n)∧YQ c p∧0≤k∧k≤100∧Nsm n 3 8) (fun _ (res:Option (List ya×List Int×Int×Int))=>jP res c (fun n:List ya=>Nsm n 3 8)) ?_ (Sum.inl (v1,c,p1,s1)) ⟨v1,p1,s1,rfl,h1,q1.1,by omega⟩ (by simp only;omega)
 intro again u hu hag
 have step: ∀ (k:Int) (n:List ya) (p s:Int),YQ c p→0≤k→k≤100→Nsm n 3 8→k>0→(∀ k' n' p' s',YQ c p'→0≤k'→k'<k→Nsm n' 3 8→jP (again (Sum.inr (k',c,p',s',n'))) c (fun n:List ya=>Nsm n 3 8))→jP (Option.bind (Yv (c,p,s)) fun r2=>Option.bind (ZJ (n,r2.1,r2.2.1,r2.2.2.1,r2.2.2.2.1,r2.2.2.2.2.1)) fun r3=>again (Sum.inr ((Go.IntKind.wrap .i64 (k - (1:Int))),r2.2.2.2.2.2.1,r2.2.2.2.2.2.2.1,r2.2.2.2.2.2.2.2,r3.1))) c (fun n:List ya=>Nsm n 3 8):=by
  intro k n p s hc k0 k1 hn hk hag2
  obtain ⟨a,b,kk,d,g,p2,s2,e2,h2⟩:=y3u c p s hc
  have hw:Go.IntKind.wrap .i64 (k - 1)=k - 1:=w64 (by omega) (by omega)
  simp only [e2,aa,y36 n a b kk d g (hn.ns (by omega) (by omega)),hw]
  exact hag2 _ _ _ _ h2 (by omega) (by omega) (yg6 n _ hn)
 cases u with
 |inl u=>
  obtain ⟨k,p,s,rfl,hc,k0,k1⟩:=hu
  unfold W6 nz
  simp only [ae,ac]
  by_cases hk:k>0
  ·simp only [af hk]
   exact step k [] p s hc k0 k1 z0 hk fun k' n' p' s' g1 g2 g3 g4=>hag _ ⟨_,_,_,_,rfl,g1,g2,by omega,g4⟩ (by simp only;omega)
  ·simp only [am hk]
   exact ⟨_,_,_,rfl,hc,z0⟩
 |inr u=>
  obtain ⟨k,n,p,s,rfl,hc,k0,k1,hn⟩:=hu
  unfold W6 nz
  simp only [ae,ac]
  by_cases hk:k>0
  ·simp only [af hk]
   exact step k n p s hc k0 k1 hn hk fun k' n' p' s' g1 g2 g3 g4=>hag _ ⟨_,_,_,_,rfl,g1,g2,by omega,g4⟩ (by simp only;omega)
  ·simp only [am hk]
   exact ⟨_,_,_,rfl,hc,hn⟩
theorem y8o (c:List Int) (p s:Int) (h:YQ c p):jP (K3 (c,p,s)) c (fun n:List ya=>NS n):=by
 obtain ⟨n,p1,s1,e1,h1,q1⟩:=ync c p s h
 obtain ⟨v2,p2,s2,e2,h2,q2⟩:=zt c p1 s1 8 h1
 obtain ⟨l,p3,s3,e3,h3,q3⟩:=yio c p2 s2 6 h2 (by omega) (by omega)
 obtain ⟨a,b,k,d,g,p4,s4,e4,h4⟩:=y3u c p2 s2 h2
 obtain ⟨a5,b5,k5,d5,g5,p5,s5,e5,h5⟩:=y3u c p4 s4 h4
 have hl:=q1.1
 have hs:=q1.2
 unfold K3 nz
 simp only [e1,e2,e3,e4,e5,aa]
 refine yT (P:=fun o=>jP o c (fun n:List ya=>NS n)) _ ?_ (yT (P:=fun o=>jP o c (fun n:List ya=>NS n)) _ ?_ ⟨_,_,_,rfl,h2,q1.ns (by omega) (by omega)⟩)
 ·rw [af (by simp only [ah,aj];omega)]
  refine ⟨_,_,_,rfl,h3,⟨by rw [ar];simp only [ah,aj];omega,?_⟩⟩
  rw [y56]
  have:QX l=(List.length l:Int):=rfl
  omega
 ·rw [af (by simp only [ah,aj];omega)]
  refine ⟨_,_,_,rfl,h5,⟨by rw [ar];simp only [ah,aj];omega,?_⟩⟩
  rw [show n++[[(a,b,k,d,g)],[(a5,b5,k5,d5,g5)]]=(n++[[(a,b,k,d,g)]])++[[(a5,b5,k5,d5,g5)]] by simp,y56,y56]
  have e1:QX [(a,b,k,d,g)]=1:=rfl
  have e2:QX [(a5,b5,k5,d5,g5)]=1:=rfl
  omega
theorem ykM (q:List y9) (t:List y0) (k:y8) (h:TS t∧q.length=t.length∧1≤t.length∧t.length≤20):TS (yw q t k).2.1∧(yw q t k).1.length=(yw q t k).2.1.length∧1≤(yw q t k).2.1.length∧(yw q t k).2.1.length≤20:=by
 unfold yw
 split
 ·split
  ·rename_i hj
   have h1:=kF hj
   exact ⟨y1a hj,h1.1,h1.2.1,h1.2.2.1⟩
  ·exact h
 ·exact h
def y8p (o:Option (List y9×List y0×List Int×Int×Int)) (c:List Int) (Q:List y9→List y0→Prop):Prop:= ∃ q t p s,o=some (q,t,c,p,s)∧YQ c p∧Q q t
def yE5 (q:List y9) (t:List y0):Prop:=TS t∧q.length=t.length∧1≤t.length∧t.length≤20
theorem ynd (c:List Int) (p s m:Int) (h:YQ c p) (m0:0≤m) (m1:m≤1000):y8p (KI (c,p,s,m)) c yE5:=by
 obtain ⟨v1,p1,s1,e1,h1,q1⟩:=zt c p s (m+1) h
 have b1:=q1.2 (by omega)
 have z0:yE5 [0] [[]]:=⟨⟨by simp,fun n hn=>by
  rw [aW.1 hn]
  exact ⟨by simp,by simp [K7]⟩⟩,rfl,by simp,by simp⟩
 unfold KI y2x wx nz
 simp only [aa]
 try simp only []
 rw [show Go.IntKind.wrap .i64 (m+1)=m+1 from w64 (by omega) (by omega),e1]
 simp only [aa]
 refine Yc (step:=KH _) (fun u:KG=>u.1.toNat) (fun u=> ∃ k q t p s,u=(k,c,p,s,q,t)∧YQ c p∧0≤k∧k≤1000∧yE5 q t) (fun _ (res:Option (List y9×List y0×List Int×Int×Int))=>y8p res c yE5) ?_ (v1,c,p1,s1,[0],[[]]) ⟨v1,_,_,p1,s1,rfl,h1,q1.1,by omega,z0⟩ (by simp only;omega)
 rintro again _ ⟨k,q,t,p,s,rfl,hc,k0,k1,hT⟩ hag
 unfold KH nz
 simp only [ae,ac]
 by_cases hk:k>0
 ·obtain ⟨a,b,kk,d,g,p2,s2,e2,h2⟩:=yJO c p s hc
  have hw:Go.IntKind.wrap .i64 (k - 1)=k - 1:=w64 (by omega) (by omega)
  have hq:=hT.1.tq (q:=q) (by have:=hT.2.1;have:=hT.2.2.2;omega)
  simp only [af hk,e2,aa,Zn q t a b kk d g hq.T hq.Q hq.q,hw]
  exact hag _ ⟨_,_,_,_,_,rfl,h2,by omega,by omega,ykM q t _ hT⟩ (by simp only;omega)
 ·simp only [am hk]
  exact ⟨_,_,_,_,rfl,hc,hT⟩
theorem yg7 (c:List Int) (p s m:Int) (h:YQ c p) (m0:0≤m) (m1:m≤1000):y8p (VV (c,p,s,m)) c TQ:=by
 obtain ⟨q,t,p1,s1,e1,h1,q1⟩:=ynd c p s m h m0 m1
 obtain ⟨v2,p2,s2,e2,h2,q2⟩:=zt c p1 s1 12 h1
 obtain ⟨v3,p3,s3,e3,h3,q3⟩:=zt c p2 s2 (q.length:Int) h2
 obtain ⟨v4,p4,s4,e4,h4,q4⟩:=WX c p3 s3 [0,-1,1,300] (by simp) (by simp) h3
 obtain ⟨n5,p5,s5,e5,h5,q5⟩:=y8o c p2 s2 h2
 obtain ⟨v6,p6,s6,e6,h6,q6⟩:=zt c p2 s2 (t.length:Int) h2
 obtain ⟨n7,p7,s7,e7,h7,q7⟩:=y8o c p6 s6 h6
 obtain ⟨hT,hql,t1,t2⟩:=q1
 have b3:=q3.2 (by omega)
 have b6:=q6.2 (by omega)
 unfold VV nz
 simp only [e1,e2,e3,e4,e5,e6,e7,aa]
 refine yT (P:=fun o=>y8p o c TQ) _ ?_ (yT (P:=fun o=>y8p o c TQ) _ ?_ (yT (P:=fun o=>y8p o c TQ) _ ?_ (yT (P:=fun o=>y8p o c TQ) _ ?_ ?_)))
 ·rw [af q3.1,af b3]
  exact ⟨_,_,_,_,rfl,h4,hT.tq (by rw [aG];omega)⟩
 ·rw [af (by simp only [ah,aj];omega)]
  refine ⟨_,_,_,_,rfl,h5,TS.tq ⟨by rw [ar];simp only [ah,aj];omega,fun n hn=> ?_⟩ (by omega)⟩
  rcases aF.1 hn with hn|hn
  ·exact hT.node n hn
  ·rw [aW.1 hn]
   exact q5
 ·rw [af q6.1,af b6]
  refine ⟨_,_,_,_,rfl,h7,TS.tq ⟨by rw [aG];omega,fun n hn=> ?_⟩ (by omega)⟩
  rcases bg hn with hn|rfl
  ·exact hT.node n hn
  ·exact q7
 ·exact ⟨_,_,_,_,rfl,h2,TS.tq ⟨by simp,fun n hn=>by cases hn⟩ (by simp)⟩
 ·exact ⟨_,_,_,_,rfl,h2,hT.tq (by omega)⟩
end Go.Proofs.YtekbnpmmjciloaaGreat.Pl
namespace Go.Proofs.YtekbnpmmjciloaaGreat.Pl
open Go.Proofs.YtekbnpmmjciloaaGreat.R Go.Proofs.YtekbnpmmjciloaaGreat.XA
theorem ykN (c:List Int) (p s n:Int) (h:YQ c p):jP (WH (c,p,s,n)) c (fun _=>True):=by
 obtain ⟨v,p1,s1,e1,h1,q1⟩:=zt c p s n h
 unfold WH nz
 rw [e1]
 exact ⟨_,_,_,rfl,h1,trivial⟩
abbrev AL:Type:=List y7×List Int×Int×Int
theorem yne (c:List Int) (p s:Int) (h:YQ c p):jP (KQ (c,p,s)) c (fun l:List y7=>l.length≤8):=by
 obtain ⟨v1,p1,s1,e1,h1,q1⟩:=zt c p s 8 h
 have b1:=q1.2 (by omega)
 unfold KQ y2A nz
 rw [e1]
 simp only [aa]
 refine Yc (step:=KP _) (fun u:KO=>u.1.toNat) (fun u=> ∃ k l p s,u=(k,c,p,s,l)∧YQ c p∧0≤k∧(List.length l:Int)+k≤8) (fun _ (res:Option AL)=>jP res c (fun l:List y7=>l.length≤8)) ?_ (v1,c,p1,s1,[]) ⟨v1,[],p1,s1,rfl,h1,q1.1,by simp;omega⟩ (by simp only;omega)
 rintro again _ ⟨k,l,p,s,rfl,hc,hk,hl⟩ hag
 unfold KP nz
 simp only [ae,ac]
 by_cases hk2:k>0
 ·have hw:Go.IntKind.wrap .i64 (k - 1)=k - 1:=w64 (by omega) (by omega)
  have step: ∀ (p s id fr:Int),YQ c p→jP (Option.bind (Y7 (l,id,fr)) fun r=>again (k - 1,c,p,s,r.1)) c (fun l:List y7=>l.length≤8):=fun p s id fr hp=>by
   obtain ⟨l',b,e2,h2⟩:=y5b l id fr (by omega)
   rw [e2]
   exact hag (k - 1,c,p,s,l') ⟨k - 1,l',p,s,rfl,hp,by omega,by omega⟩ (by simp only;omega)
  obtain ⟨v2,p2,s2,e2,h2,_⟩:=ykN c p s 4 hc
  obtain ⟨v3,p3,s3,e3,h3,q3⟩:=zt c p2 s2 (l.length:Int) h2
  obtain ⟨v4,p4,s4,e4,h4,_⟩:=zt c p3 s3 8 h3
  obtain ⟨v6,p6,s6,e6,h6,_⟩:=zt c p2 s2 8 h2
  obtain ⟨v8,p8,s8,e8,h8,_⟩:=zt c p s 8 hc
  simp only [af hk2,hw,e2,e3,e6,e8,aa]
  split
  ·rename_i hlen
   split
   ·rw [af q3.1,af (q3.2 hlen),e4]
    exact step _ _ _ _ h4
   ·exact step _ _ _ _ h6
  ·exact step _ _ _ _ h8
 ·simp only [am hk2]
  exact ⟨_,_,_,rfl,hc,by simp only;omega⟩
theorem yg8 (c:List Int) (p s:Int) (h:YQ c p):jP (VW (c,p,s)) c (fun l:List y7=>l.length≤100):=by
 obtain ⟨l,p1,s1,e1,h1,q1⟩:=yne c p s h
 obtain ⟨v2,p2,s2,e2,h2,q2⟩:=zt c p1 s1 8 h1
 obtain ⟨v3,p3,s3,e3,h3,q3⟩:=WX c p2 s2 [0,3,60,61] (by simp) (by simp) h2
 obtain ⟨v4,p4,s4,e4,h4,q4⟩:=WX c p3 s3 [0,1,9,-1] (by simp) (by simp) h3
 obtain ⟨v5,p5,s5,e5,h5,q5⟩:=WX c p2 s2 [1,2,3] (by simp) (by simp) h2
 unfold VW nz
 simp only [e1,e2,e3,e4,e5,aa]
 refine yT (P:=fun o=>jP o c (fun l:List y7=>l.length≤100)) _ ?_ (yT (P:=fun o=>jP o c (fun l:List y7=>l.length≤100)) _ (Jv (P:=fun o=>jP o c (fun l:List y7=>l.length≤100)) _ (fun hh=> ?_) fun _=>⟨_,_,_,rfl,h2,by omega⟩) (yT (P:=fun o=>jP o c (fun l:List y7=>l.length≤100)) _ ?_ ⟨_,_,_,rfl,h2,by omega⟩))
 ·rw [af (by simp only [ah,aj];omega)]
  exact ⟨_,_,_,rfl,h4,by simp only [ar,ah,aj];omega⟩
 ·have hh:=cO hh
  rw [af (aH _),af (show (0:Int)<((List.length l:Nat):Int) by omega)]
  exact ⟨_,_,_,rfl,h5,by simp only [aG];omega⟩
 ·unfold y2B
  refine Yc (step:=KS _) (fun u:KR=>(14 - u.1).toNat) (fun u=> ∃ k l p s,u=(k,c,p,s,l)∧YQ c p∧0≤k∧k≤14∧(List.length l:Int)≤8+k) (fun _ (res:Option AL)=>jP res c (fun l:List y7=>l.length≤100)) ?_ (0,c,p2,s2,l) ⟨0,l,p2,s2,rfl,h2,aH _,by omega,by omega⟩ (by simp only;omega)
  rintro again _ ⟨k,l,p,s,rfl,hc,k0,k1,hl⟩ hag
  unfold KS nz
  simp only [ae,ac]
  by_cases hk2:k<14
  ·have hw:Go.IntKind.wrap .i64 (k+1)=k+1:=w64 (by omega) (by omega)
   simp only [af hk2,hw,ah,aj]
   rw [af (by omega)]
   exact hag _ ⟨_,_,_,_,rfl,hc,by omega,by omega,by simp only [ar,ah,aj];omega⟩ (by simp only;omega)
  ·simp only [am hk2]
   exact ⟨_,_,_,rfl,hc,by simp only;omega⟩
abbrev CL:Type:=List y6×List Int×Int×Int
theorem ykO (c:List Int) (p s:Int) (h:YQ c p):jP (KV (c,p,s)) c (fun l:List y6=>l.length=24):=by
 obtain ⟨v1,p1,s1,e1,h1,q1⟩:=zt c p s 30 h
 have b1:=q1.2 (by omega)
 unfold KV y2C J7 nz
 rw [af (by omega),af (by omega),af (by decide)]
 simp only [aa]
 rw [e1]
 simp only [aa]
 refine Yc (step:=KU _) (fun u:KT=>u.1.toNat) (fun u=> ∃ k l p s,u=(k,c,p,s,l)∧YQ c p∧0≤k∧k≤30∧List.length l=24) (fun _ (res:Option CL)=>jP res c (fun l:List y6=>l.length=24)) ?_ (v1,c,p1,s1,List.replicate (Int.toNat (24:Int)) zv) ⟨v1,_,p1,s1,rfl,h1,q1.1,by omega,by simp⟩ (by simp only;omega)
 rintro again _ ⟨k,l,p,s,rfl,hc,k0,k1,hl⟩ hag
 unfold KU nz
 simp only [ae,ac]
 by_cases hk2:k>0
 ·have hw:Go.IntKind.wrap .i64 (k - 1)=k - 1:=w64 (by omega) (by omega)
  obtain ⟨v2,p2,s2,e2,h2,_⟩:=ykN c p s 3 hc
  obtain ⟨v3,p3,s3,e3,h3,q3⟩:=zt c p2 s2 6 h2
  obtain ⟨v4,p4,s4,e4,h4,q4⟩:=WX c p2 s2 [0,5,65535] (by simp) (by simp) h2
  obtain ⟨l',i,b,e5,h5,_⟩:=y4n l v4 (by omega)
  simp only [af hk2,hw,e2,e3,e4,e5,aa,jk l v3 (by omega)]
  split
  ·exact hag _ ⟨_,_,_,_,rfl,h3,by omega,by omega,by rw [y38];exact hl⟩ (by simp only;omega)
  ·exact hag _ ⟨_,_,_,_,rfl,h4,by omega,by omega,by rw [h5];exact hl⟩ (by simp only;omega)
 ·simp only [am hk2]
  exact ⟨_,_,_,rfl,hc,hl⟩
theorem yeM (c:List Int) (p s:Int) (h:YQ c p):jP (VX (c,p,s)) c (fun l:List y6=>l.length≤24):=by
 obtain ⟨l,p1,s1,e1,h1,q1⟩:=ykO c p s h
 obtain ⟨v2,p2,s2,e2,h2,q2⟩:=zt c p1 s1 10 h1
 obtain ⟨v3,p3,s3,e3,h3,q3⟩:=zt c p2 s2 (l.length:Int) h2
 obtain ⟨v4,p4,s4,e4,h4,q4⟩:=WX c p3 s3 [-1,999,1000] (by simp) (by simp) h3
 obtain ⟨v5,p5,s5,e5,h5,q5⟩:=WX c p3 s3 [-1,5,65536] (by simp) (by simp) h3
 have b3:=q3.2 (by omega)
 unfold VX nz
 simp only [e1,e2,e3,e4,e5,aa]
 refine yT (P:=fun o=>jP o c (fun l:List y6=>l.length≤24)) _ ?_ (yT (P:=fun o=>jP o c (fun l:List y6=>l.length≤24)) _ ?_ (yT (P:=fun o=>jP o c (fun l:List y6=>l.length≤24)) _ ?_ (yT (P:=fun o=>jP o c (fun l:List y6=>l.length≤24)) _ ?_ ⟨_,_,_,rfl,h2,by omega⟩)))
 ·rw [af (by omega),af (by omega),af (by omega)]
  exact ⟨_,_,_,rfl,h2,by simp only [aC,ak];omega⟩
 ·rw [af q3.1,af b3]
  exact ⟨_,_,_,rfl,h4,by simp only [aG];omega⟩
 ·rw [af q3.1,af b3]
  exact ⟨_,_,_,rfl,h5,by simp only [aG];omega⟩
 ·rw [af (by omega),af (by omega)]
  exact ⟨_,_,_,rfl,h2,by simp only [aG];omega⟩
def y1g (o:Option (List y9×List y0×List y7×List y6×List yf×Int×List Int×Int×Int)) (c:List Int) (Q:List y9→List y0→List y7→List y6→List yf→Prop):Prop:= ∃ q t l cs vs z p s,o=some (q,t,l,cs,vs,z,c,p,s)∧YQ c p∧Q q t l cs vs
theorem Tn0:Tn [0] [[]] [] (List.replicate (Int.toNat (24:Int)) zv) []:=by
 have hT:TS [[]]:=⟨by simp,fun n hn=>by
  rw [aW.1 hn]
  exact ⟨by simp,by simp [K7]⟩⟩
 have hN: ∀ v∈([]:List yf),ByteArray.size v.1≤60:=fun v hv=>nomatch hv
 exact ⟨by simp,hT,by simp,by simp,by simp,hN,rfl,by simp⟩
theorem ykP (c:List Int) (p s m:Int) (h:YQ c p) (m0:0≤m) (m1:m≤1000):y1g (kl (c,p,s,m)) c Tn:=by
 obtain ⟨v1,p1,s1,e1,h1,q1⟩:=zt c p s (m+1) h
 have b1:=q1.2 (by omega)
 unfold kl y1O VB wx J7 nz
 rw [af (by omega),af (by omega),af (by decide)]
 simp only [aa]
 rw [show Go.IntKind.wrap .i64 (m+1)=m+1 from w64 (by omega) (by omega),e1]
 simp only [aa]
 refine Yc (step:=w5 _ _) (fun u:kL=>match u with| .inl u=>u.1.toNat| .inr u=>u.1.toNat) (fun u=>match u with| .inl u=> ∃ k y q t l cs vs z p s,u=(k,c,p,s,y,z,q,t,l,cs,vs)∧YQ c p∧0≤k∧k≤1000∧Tn q t l cs vs| .inr u=> ∃ k y q t l cs vs z p s,u=(k,c,p,s,y,q,t,l,z,cs,vs)∧YQ c p∧0≤k∧k≤1000∧Tn q t l cs vs) (fun _ (res:Option (List y9×List y0×List y7×List y6×List yf×Int×List Int×Int×Int))=>y1g res c Tn) ?_ _ ⟨v1,0,_,_,_,_,_,1,p1,s1,rfl,h1,q1.1,by omega,Tn0⟩ (by simp only;omega)
 intro again u hu hag
 have step: ∀ (k y:Int) q t l cs vs (z p s:Int),YQ c p→0≤k→k≤1000→Tn q t l cs vs→k>0→(∀ k' q' t' l' cs' vs' z' p' s',YQ c p'→0≤k'→k'<k→Tn q' t' l' cs' vs'→y1g (again (Sum.inr (k',c,p',s',y,q',t',l',z',cs',vs'))) c Tn)→y1g (Option.bind (Y3 (c,p,s)) fun r3=>Option.bind (zQ (q,t,l,cs,vs,z,r3.1,r3.2.1,r3.2.2.1,r3.2.2.2.1,r3.2.2.2.2.1)) fun r4=>again (Sum.inr ((Go.IntKind.wrap .i64 (k - (1:Int))),r3.2.2.2.2.2.1,r3.2.2.2.2.2.2.1,r3.2.2.2.2.2.2.2,y,r4.1,r4.2.1,r4.2.2.1,r4.2.2.2.2.2.1,r4.2.2.2.1,r4.2.2.2.2.1))) c Tn:=by
  intro k y q t l cs vs z p s hc k0 k1 hT hk hag2
  obtain ⟨kd,n,m,a,b,p2,s2,e2,h2,hn,hm⟩:=ynb c p s hc
  obtain ⟨q',t',l',cs',vs',z',cc,e3,h3⟩:=yhm z hT.sp kd n m a b hn hm
  have hw:Go.IntKind.wrap .i64 (k - 1)=k - 1:=w64 (by omega) (by omega)
  simp only [e2,e3,aa,hw]
  refine hag2 _ _ _ _ _ _ _ _ _ h2 (by omega) (by omega) ?_
  rcases h3 with h3|h3
  ·exact h3
  ·simp only [aY] at h3
   obtain ⟨rfl,rfl,rfl,rfl,rfl,rfl⟩:=h3
   exact hT
 cases u with
 |inl u=>
  obtain ⟨k,y,q,t,l,cs,vs,z,p,s,rfl,hc,k0,k1,hT⟩:=hu
  unfold w5 nz
  simp only [ae,ac]
  by_cases hk:k>0
  ·simp only [af hk]
   exact step k y q t l cs vs z p s hc k0 k1 hT hk fun k' q' t' l' cs' vs' z' p' s' g1 g2 g3 g4=>hag _ ⟨_,_,_,_,_,_,_,_,_,_,rfl,g1,g2,by omega,g4⟩ (by simp only;omega)
  ·simp only [am hk]
   exact ⟨_,_,_,_,_,_,_,_,rfl,hc,hT⟩
 |inr u=>
  obtain ⟨k,y,q,t,l,cs,vs,z,p,s,rfl,hc,k0,k1,hT⟩:=hu
  unfold w5 nz
  simp only [ae,ac]
  by_cases hk:k>0
  ·simp only [af hk]
   exact step k y q t l cs vs z p s hc k0 k1 hT hk fun k' q' t' l' cs' vs' z' p' s' g1 g2 g3 g4=>hag _ ⟨_,_,_,_,_,_,_,_,_,_,rfl,g1,g2,by omega,g4⟩ (by simp only;omega)
  ·simp only [am hk]
   exact ⟨_,_,_,_,_,_,_,_,rfl,hc,hT⟩
theorem y6j (c:List Int) (p s m:Int) (h:YQ c p) (m0:0≤m) (m1:m≤1000):y1g (WI (c,p,s,m)) c SP:=by
 obtain ⟨q,t,l,cs,vs,z,p1,s1,e1,h1,hT⟩:=ykP c p s m h m0 m1
 obtain ⟨v2,p2,s2,e2,h2,_⟩:=zt c p1 s1 20 h1
 obtain ⟨q3,t3,p3,s3,e3,h3,hq3⟩:=yg7 c p2 s2 6 h2 (by omega) (by omega)
 obtain ⟨l4,p4,s4,e4,h4,hl4⟩:=yg8 c p2 s2 h2
 obtain ⟨c5,p5,s5,e5,h5,hc5⟩:=yeM c p2 s2 h2
 obtain ⟨v6,p6,s6,e6,h6,hv6⟩:=yhn c p2 s2 [{data:= #[97]},{data:= #[122,122]},{data:= #[65]}] (by simp) (by simp) (by decide) h2
 obtain ⟨v7,p7,s7,e7,h7,_⟩:=zt c p6 s6 4 h6
 obtain ⟨v8,p8,s8,e8,h8,_⟩:=WX c p7 s7 [0,1,13] (by simp) (by simp) h7
 obtain ⟨v9,p9,s9,e9,h9,_⟩:=WX c p2 s2 [0,1,60,61,62] (by simp) (by simp) h2
 obtain ⟨vA,pA,sA,eA,hA,qA⟩:=zt c p2 s2 (cs.length:Int) h2
 obtain ⟨vB,pB,sB,eB,hB,_⟩:=zt c p2 s2 6 h2
 have hS:=hT.sp
 have hcl:=hT.cl
 have hvl:=hT.vl
 have bA:=qA.2 (by omega)
 unfold WI nz
 simp only [e1,e2,e3,e4,e5,e6,e7,e8,e9,eA,eB,aa]
 refine yT (P:=fun o=>y1g o c SP) _ ?_ (yT (P:=fun o=>y1g o c SP) _ ?_ (yT (P:=fun o=>y1g o c SP) _ ?_ (yT (P:=fun o=>y1g o c SP) _ ?_ (yT (P:=fun o=>y1g o c SP) _ ?_ (yT (P:=fun o=>y1g o c SP) _ ?_ (yT (P:=fun o=>y1g o c SP) _ (Jv (P:=fun o=>y1g o c SP) _ (fun hh=> ?_) fun _=> ?_) ?_))))))
 ·exact ⟨_,_,_,_,_,_,_,_,rfl,h3,hq3.sp hS hS.S.2.2.2.1 hS.S.2.2.2.2.1⟩
 ·exact ⟨_,_,_,_,_,_,_,_,rfl,h4,hS.tq.sp hS (by omega) hS.S.2.2.2.2.1⟩
 ·exact ⟨_,_,_,_,_,_,_,_,rfl,h5,hS.tq.sp hS hS.S.2.2.2.1 (by omega)⟩
 ·rw [af (by simp only [ah,aj];omega)]
  refine ⟨_,_,_,_,_,_,_,_,rfl,h8,SP.of hS.tq hS.S.2.2.2.1 hS.S.2.2.2.2.1 (by simp only [ar,ah,aj];omega) fun v hv=> ?_⟩
  rcases aF.1 hv with hv|hv
  ·exact hS.N v hv
  ·rw [aW.1 hv]
   exact kH hv6
 ·exact ⟨_,_,_,_,_,_,_,_,rfl,h9,hS⟩
 ·rw [af qA.1,af bA]
  exact ⟨_,_,_,_,_,_,_,_,rfl,hA,hS.tq.sp hS hS.S.2.2.2.1 (by rw [aG];omega)⟩
 ·have hh:=cO hh
  rw [af (aH _),af (show (0:Int)<((List.length vs:Nat):Int) by omega)]
  refine ⟨_,_,_,_,_,_,_,_,rfl,hB,SP.of hS.tq hS.S.2.2.2.1 hS.S.2.2.2.2.1 (by rw [aG];omega) fun v hv=> ?_⟩
  rcases bg hv with hv|rfl
  ·exact hS.N v hv
  ·exact hS.N (yd vs 0) (z5 Yu vs 0 (aH _) (by omega))
 ·exact ⟨_,_,_,_,_,_,_,_,rfl,h2,hS⟩
 ·exact ⟨_,_,_,_,_,_,_,_,rfl,h2,hS⟩
theorem ykQ (x:List Int) (m:Int) (hx:x.length≤1099511627776) (hm:3≤m): ∃ n,Wy (x,m)=some n∧0≤n∧n≤m:=by
 unfold Wy nz
 have hd:Int.tdiv ((List.length x:Nat):Int) 12=((List.length x:Nat):Int) / 12:=Int.tdiv_eq_ediv_of_nonneg (by omega)
 simp only [hd]
 rw [show Go.IntKind.wrap .i64 (((List.length x:Nat):Int) / 12)=((List.length x:Nat):Int) / 12 from w64 (by omega) (by omega),show Go.IntKind.wrap .i64 (3+((List.length x:Nat):Int) / 12)=3+((List.length x:Nat):Int) / 12 from w64 (by omega) (by omega)]
 by_cases h:3+((List.length x:Nat):Int) / 12>m
 ·rw [ax h]
  exact ⟨_,rfl,by omega,aH _⟩
 ·rw [aw h]
  exact ⟨_,rfl,by omega,by omega⟩
end Go.Proofs.YtekbnpmmjciloaaGreat.Pl
namespace Go.Proofs.YtekbnpmmjciloaaGreat.Pl
open Go.Proofs.YtekbnpmmjciloaaGreat.R Go.Proofs.YtekbnpmmjciloaaGreat.XA
def wO {A:Type} (eq:A→A→Bool) (da:A) (a b:List A):Bool:=decide (a.length=b.length)&& !Zm (fun i x=> !eq x (b.getD i.toNat da)) a 0
theorem y1F {A:Type} (eq:A→A→Bool) (da:A) {a b:List A} (h:a.length≠b.length):wO eq da a b=false:=by
 unfold wO
 rw [aw h]
 rfl
theorem y8q {A B:Type} {a:List A} {b:List B} (h:a.length=b.length):(((List.length a:Nat):Int) !=((List.length b:Nat):Int))=false:=by
 rw [h]
 simp
theorem y8r {A B:Type} {a:List A} {b:List B} (h:a.length≠b.length):(((List.length a:Nat):Int) !=((List.length b:Nat):Int))=true:=by
 simp only [bne_iff_ne]
 omega
theorem QV {T A:Type} {step:(T→Option Bool)→T→Option Bool} (mk:Int→T) (eq:A→A→Bool) (da:A) (a b:List A) (hl:a.length≤1048576) (he:a.length=b.length)
  (h: ∀ again i,0≤i→i<((List.length a:Nat):Int)→i<((List.length b:Nat):Int)→a.getD i.toNat da∈a→b.getD i.toNat da∈b→step again (mk i)=bif (!eq (a.getD i.toNat da) (b.getD i.toNat da)) then some false else again (mk (i+1)))
  (hd: ∀ again i,¬ i<((List.length a:Nat):Int)→step again (mk i)=some true):zI step zY (mk 0)=some (wO eq da a b):=by
 refine (Ye (step:=step) mk (fun i x=> !eq x (b.getD i.toNat da)) (some false) (some true) da a (by omega) (fun again i h0 h1=> ?_) hd).trans ?_
 ·rw [h again i h0 h1 (by omega) (z5 da a i h0 h1) (z5 da b i h0 (by omega)),ae]
 ·unfold wO
  rw [ax he]
  cases Zm (fun i x=> !eq x (b.getD i.toNat da)) a 0<;>rfl
theorem Ka {A:Type} {eq:A→A→Bool} (da:A) (a:List A) (h: ∀ x,eq x x=true):wO eq da a a=true:=by
 unfold wO
 rw [ax rfl,y50 da a 0 fun j hj=>by
  rw [show (0+(j:Int)).toNat=j by omega,h]
  rfl]
 rfl
def eqI (x y:Int):Bool:=x==y
def eqK (x y:y8):Bool:=(x.1==y.1)&&((x.2.1==y.2.1)&&((x.2.2.1==y.2.2.1)&&((x.2.2.2.1==y.2.2.2.1)&&((x.2.2.2.2==y.2.2.2.2)&&true))))
def eqA (x y:y7):Bool:=(x.1==y.1)&&((x.2==y.2)&&true)
def eqC (x y:y6):Bool:=(x.1==y.1)&&((x.2.1==y.2.1)&&((x.2.2==y.2.2)&&true))
def eqV (x y:yf):Bool:=(ByteArray.toList x.1==ByteArray.toList y.1)&&((x.2.1==y.2.1)&&((x.2.2.1==y.2.2.1)&&((x.2.2.2==y.2.2.2)&&true)))
def eqS (x y:ya):Bool:=wO eqK yX x y
def eqN (x y:y0):Bool:=wO eqS zk x y
theorem yhp (x:Int):eqI x x=true:=by simp [eqI]
theorem ynf (x:y8):eqK x x=true:=by simp [eqK]
theorem yng (x:y7):eqA x x=true:=by simp [eqA]
theorem ynh (x:y6):eqC x x=true:=by simp [eqC]
theorem yni (x:yf):eqV x x=true:=by simp [eqV]
theorem ynj (x:ya):eqS x x=true:=Ka _ _ ynf
theorem ynk (x:y0):eqN x x=true:=Ka _ _ ynj
def y5d (q:List y9) (t:List y0) (l:List y7) (cs:List y6) (vs:List yf) (z:Int) (q':List y9) (t':List y0) (l':List y7) (cs':List y6) (vs':List yf) (z':Int):Bool:=
 wO eqI y2d q q'&&(wO eqN yH t t'&&(wO eqA YS l l'&&(wO eqC zv cs cs'&&(wO eqV Yu vs vs'&&(z==z')))))
theorem y8N (q:List y9) (t:List y0) (l:List y7) (cs:List y6) (vs:List yf) (z:Int):y5d q t l cs vs z q t l cs vs z=true:=by
 unfold y5d
 rw [Ka _ _ yhp,Ka _ _ ynk,Ka _ _ yng,Ka _ _ ynh,Ka _ _ yni]
 simp
theorem y1Z (a b:List y9) (hl:a.length≤1048576):j7 (a,b)=some (wO eqI y2d a b):=by
 unfold j7 y12 nz
 by_cases he:a.length=b.length
 ·simp only [y8q he,ag]
  refine QV (step:=Jj _ _) (fun i=>(a,b,i)) eqI y2d a b hl he (fun again i h0 h1 h2 _ _=> ?_) fun again i hi=> ?_
  ·have hw:Go.IntKind.wrap .i64 (i+1)=i+1:=w64 (by omega) (by omega)
   unfold Jj nz
   simp only [ax h1,ai,af h0,af h1,af h2,hw]
   rfl
  ·unfold Jj nz
   simp only [aw hi,ag]
 ·simp only [y8r he,ai,y1F _ _ he]
theorem y6B (a b:List y8) (hl:a.length≤1048576):Wq (a,b)=some (wO eqK yX a b):=by
 unfold Wq y13 nz
 by_cases he:a.length=b.length
 ·simp only [y8q he,ag]
  refine QV (step:=Jk _ _) (fun i=>(a,b,i)) eqK yX a b hl he (fun again i h0 h1 h2 _ _=> ?_) fun again i hi=> ?_
  ·have hw:Go.IntKind.wrap .i64 (i+1)=i+1:=w64 (by omega) (by omega)
   unfold Jk nz
   simp only [ax h1,ai,af h0,af h1,af h2,hw]
   rfl
  ·unfold Jk nz
   simp only [aw hi,ag]
 ·simp only [y8r he,ai,y1F _ _ he]
theorem y6C (a b:List y7) (hl:a.length≤1048576):Wt (a,b)=some (wO eqA YS a b):=by
 unfold Wt y16 nz
 by_cases he:a.length=b.length
 ·simp only [y8q he,ag]
  refine QV (step:=Jn _ _) (fun i=>(a,b,i)) eqA YS a b hl he (fun again i h0 h1 h2 _ _=> ?_) fun again i hi=> ?_
  ·have hw:Go.IntKind.wrap .i64 (i+1)=i+1:=w64 (by omega) (by omega)
   unfold Jn nz
   simp only [ax h1,ai,af h0,af h1,af h2,hw]
   rfl
  ·unfold Jn nz
   simp only [aw hi,ag]
 ·simp only [y8r he,ai,y1F _ _ he]
theorem y5N (a b:List y6) (hl:a.length≤1048576):wm (a,b)=some (wO eqC zv a b):=by
 unfold wm y0e nz
 by_cases he:a.length=b.length
 ·simp only [y8q he,ag]
  refine QV (step:=jN _ _) (fun i=>(a,b,i)) eqC zv a b hl he (fun again i h0 h1 h2 _ _=> ?_) fun again i hi=> ?_
  ·have hw:Go.IntKind.wrap .i64 (i+1)=i+1:=w64 (by omega) (by omega)
   unfold jN nz
   simp only [ax h1,ai,af h0,af h1,af h2,hw]
   rfl
  ·unfold jN nz
   simp only [aw hi,ag]
 ·simp only [y8r he,ai,y1F _ _ he]
theorem y6D (a b:List ya) (hl:a.length≤1048576) (hs: ∀ s∈a,List.length s≤1048576):Wr (a,b)=some (wO eqS zk a b):=by
 unfold Wr y14 nz
 by_cases he:a.length=b.length
 ·simp only [y8q he,ag]
  refine QV (step:=Jl _ _) (fun i=>(i,a,b)) eqS zk a b hl he (fun again i h0 h1 h2 hm _=> ?_) fun again i hi=> ?_
  ·have hw:Go.IntKind.wrap .i64 (i+1)=i+1:=w64 (by omega) (by omega)
   unfold Jl nz
   simp only [ax h1,ai,af h0,af h1,af h2,hw]
   rw [y6B (yu a i) (yu b i) (hs _ hm)]
   rfl
  ·unfold Jl nz
   simp only [aw hi,ag]
 ·simp only [y8r he,ai,y1F _ _ he]
theorem y6E (q q':List y9) (t t':List y0) (hq:q.length≤1048576) (ht:t.length≤1048576) (hn: ∀ n∈t,List.length n≤1048576∧ ∀ s∈(show List ya from n),List.length s≤1048576):Ws (q,t,q',t')=some (wO eqI y2d q q'&&wO eqN yH t t'):=by
 unfold Ws y15 nz
 simp only [y1Z q q' hq,aa]
 cases wO eqI y2d q q' with
 |false=>rfl
 |true=>
  simp only [ay,ag,aa,br]
  by_cases he:t.length=t'.length
  ·simp only [y8q he,ag]
   refine QV (step:=Jm _ _) (fun i=>(i,q,t,q',t')) eqN yH t t' ht he (fun again i h0 h1 h2 hm _=> ?_) fun again i hi=> ?_
   ·have hw:Go.IntKind.wrap .i64 (i+1)=i+1:=w64 (by omega) (by omega)
    unfold Jm nz
    simp only [ax h1,ai,af h0,af h1,af h2,hw]
    rw [y6D (yk t i) (yk t' i) (hn _ hm).1 (hn _ hm).2]
    rfl
   ·unfold Jm nz
    simp only [aw hi,ag]
  ·simp only [y8r he,ai,y1F _ _ he]
section
variable {q:List y9} {t:List y0} {l:List y7} {cs:List y6} {vs:List yf} (z:Int) (hs:small q t l cs vs) (q':List y9) (t':List y0) (l':List y7) (cs':List y6) (vs':List yf) (z':Int)
include hs
theorem y6F:YN (q,t,l,cs,vs,z,q',t',l',cs',vs',z')=some (y5d q t l cs vs z q' t' l' cs' vs' z'):=by
 have hv:vs.length≤1048576:=hs.2.2.2.2.2
 have loop:vs.length=vs'.length→Vs (fun x8=>some x8) (fun x9=>some true) ((0:Int),q,t,l,cs,vs,z,q',t',l',cs',vs',z')=some (wO eqV Yu vs vs'):=by
  intro he
  unfold Vs
  refine QV (step:=Jo _ _) (fun i=>(i,q,t,l,cs,vs,z,q',t',l',cs',vs',z')) eqV Yu vs vs' hv he (fun again i h0 h1 h2 _ _=> ?_) fun again i hi=> ?_
  ·have hw:Go.IntKind.wrap .i64 (i+1)=i+1:=w64 (by omega) (by omega)
   unfold Jo nz
   simp only [ax h1,ai,af h0,af h1,af h2,hw]
   rfl
  ·unfold Jo nz
   simp only [aw hi,ag]
 unfold YN y5d nz
 simp only [y6E q q' t t' hs.1 hs.2.1 (fun n hn=>K9 hs.2.2.1 hn),y6C l l' hs.2.2.2.1,y5N cs cs' hs.2.2.2.2.1,aa]
 cases wO eqI y2d q q'<;>cases wO eqN yH t t'<;>try rfl
 cases wO eqA YS l l'<;>cases wO eqC zv cs cs'<;>try rfl
 by_cases he:vs.length=vs'.length
 ·simp only [y8q he,loop he]
  cases hz:z==z'
  ·simp [bne,hz]
  ·simp [bne,hz]
 ·simp only [y8r he,y1F _ _ he]
  rfl
end
end Go.Proofs.YtekbnpmmjciloaaGreat.Pl
namespace Go.Proofs.YtekbnpmmjciloaaGreat.Pl
open Go.Proofs.YtekbnpmmjciloaaGreat.R Go.Proofs.YtekbnpmmjciloaaGreat.XA
section
variable {q:List y9} {t:List y0} {l:List y7} {cs:List y6} {vs:List yf} (z:Int) (h:SP q t l cs vs)
noncomputable def y8O (q:List y9) (t:List y0) (l:List y7) (cs:List y6) (vs:List yf) (z i s:Int):Nat→Int→List y9→List y0→List y6→Option P7a
 |0,_,q',t',cs'=>some (if yK q' t' l cs' (List.set vs (Int.toNat i) ((yd vs i).1,(yd vs i).2.1,s,(yd vs i).2.2.2)) z=true then (q',t',l,cs',List.set vs (Int.toNat i) ((yd vs i).1,(yd vs i).2.1,s,(yd vs i).2.2.2),z,0) else (q,t,l,cs,vs,z,6))
 |m+1,b,q',t',cs'=>match zP (q',t',l,cs',vs,z,i,b) with
  |some r=>if r.1=true then y8O q t l cs vs z i s m (b - 1) r.2.1 r.2.2.1 r.2.2.2.2.1 else some (q,t,l,cs,vs,z,6)
  |none=>none
include h
theorem yph (i s:Int) (h0:0≤i) (h1:i<(vs.length:Int)) {q':List y9} {t':List y0} {cs':List y6} (hS:SP q' t' l cs' vs):SP q' t' l cs' (List.set vs (Int.toNat i) ((yd vs i).1,(yd vs i).2.1,s,(yd vs i).2.2.2)):=by
 refine ⟨⟨hS.S.1,hS.S.2.1,hS.S.2.2.1,hS.S.2.2.2.1,hS.S.2.2.2.2.1,by rw [aG];exact h.S.2.2.2.2.2⟩,fun v hv=> ?_⟩
 rcases bg hv with hv|rfl
 ·exact h.N v hv
 ·exact h.N (yd vs i) (z5 Yu vs i h0 h1)
theorem ynl (k0:Int×Int×Bool×List y9×List y0×List y7×List y6×List yf×Int×Int×Int×List y9×List y0×List y7×List y6×List yf→Option P7a) (k1:Int×Int×Bool×List y9×List y0×List y7×List y6×List yf×Int×Int×List y9×List y0×List y7×Int×List y6×List yf→Option P7a) (s i b:Int) (y:Int) (h0:0≤i) (h1:i<(vs.length:Int)) (hb:b≤1000) (hb0: -1000≤b) (hs:0≤s)
  (f0: ∀ ok q' t' cs',SP q' t' l cs' vs→k0 (s,i,ok,q,t,l,cs,vs,z,y,z,q',t',l,cs',vs)=if ok=true then y8O q t l cs vs z i s 0 0 q' t' cs' else some (q,t,l,cs,vs,z,6))
  (f1: ∀ ok q' t' cs',SP q' t' l cs' vs→k1 (s,i,ok,q,t,l,cs,vs,z,y,q',t',l,z,cs',vs)=if ok=true then y8O q t l cs vs z i s 0 0 q' t' cs' else some (q,t,l,cs,vs,z,6)):
  je k0 k1 (Sum.inl (s,i,true,b,q,t,l,cs,vs,z,y,z,q,t,l,cs,vs))=y8O q t l cs vs z i s (b - s+1).toNat b q t cs:=by
 have z0: ∀ b q' t' cs',y8O q t l cs vs z i s 0 0 q' t' cs'=y8O q t l cs vs z i s 0 b q' t' cs':=fun _ _ _ _=>rfl
 unfold je
 refine Z2 (step:=YU k0 k1) (fun u:w3=>match u with| .inl u=>(u.2.2.2.1+1).toNat+1| .inr u=>(u.2.2.2.1+1).toNat)
  (fun u=>match u with
   | .inl u=> ∃ b ok q' t' cs',b≤1000∧ -1000≤b∧SP q' t' l cs' vs∧u=(s,i,ok,b,q,t,l,cs,vs,z,y,z,q',t',l,cs',vs)
   | .inr u=> ∃ b ok q' t' cs',b≤1000∧ -1001≤b∧SP q' t' l cs' vs∧u=(s,i,ok,b,q,t,l,cs,vs,z,y,q',t',l,z,cs',vs))
  (fun u=>match u with
   | .inl u=>if u.2.2.1=true then y8O q t l cs vs z i s (u.2.2.2.1 - s+1).toNat u.2.2.2.1 u.2.2.2.2.2.2.2.2.2.2.2.2.1 u.2.2.2.2.2.2.2.2.2.2.2.2.2.1 u.2.2.2.2.2.2.2.2.2.2.2.2.2.2.2.1 else some (q,t,l,cs,vs,z,6)
   | .inr u=>if u.2.2.1=true then y8O q t l cs vs z i s (u.2.2.2.1 - s+1).toNat u.2.2.2.1 u.2.2.2.2.2.2.2.2.2.2.2.1 u.2.2.2.2.2.2.2.2.2.2.2.2.1 u.2.2.2.2.2.2.2.2.2.2.2.2.2.2.2.1 else some (q,t,l,cs,vs,z,6)) ?_ _ ⟨b,true,q,t,cs,hb,hb0,h,rfl⟩ (by simp only;omega)
 intro again u hu hag
 cases u with
 |inl u=>
  obtain ⟨b,ok,q',t',cs',k1',k2',hS,rfl⟩:=hu
  unfold YU nz
  simp only at hag ⊢
  by_cases hbs:b≥s
  ·cases ok with
   |false=>
    simp only [ax hbs,ai,aa,ag]
    exact f0 _ _ _ _ hS
   |true=>
    obtain ⟨r,q2,t2,cs2,e1,h2⟩:=Jz z hS i b h0 h1
    have hw:Go.IntKind.wrap .i64 (b - 1)=b - 1:=w64 (by omega) (by omega)
    simp only [ax hbs,ai,aa,e1,hw,aB]
    rw [show (b - s+1).toNat=(b - 1 - s+1).toNat+1 by omega,y8O,e1]
    exact hag (.inr (s,i,r,b - 1,q,t,l,cs,vs,z,y,q2,t2,l,z,cs2,vs)) ⟨b - 1,r,q2,t2,cs2,by omega,by omega,h2,rfl⟩ (by simp only;omega)
  ·simp only [aw hbs,ag,aa]
   rw [show (b - s+1).toNat=0 by omega]
   exact f0 _ _ _ _ hS
 |inr u=>
  obtain ⟨b,ok,q',t',cs',k1',k2',hS,rfl⟩:=hu
  unfold YU nz
  simp only at hag ⊢
  by_cases hbs:b≥s
  ·cases ok with
   |false=>
    simp only [ax hbs,ai,aa,ag]
    exact f1 _ _ _ _ hS
   |true=>
    obtain ⟨r,q2,t2,cs2,e1,h2⟩:=Jz z hS i b h0 h1
    have hw:Go.IntKind.wrap .i64 (b - 1)=b - 1:=w64 (by omega) (by omega)
    simp only [ax hbs,ai,aa,e1,hw,aB]
    rw [show (b - s+1).toNat=(b - 1 - s+1).toNat+1 by omega,y8O,e1]
    exact hag (.inr (s,i,r,b - 1,q,t,l,cs,vs,z,y,q2,t2,l,z,cs2,vs)) ⟨b - 1,r,q2,t2,cs2,by omega,by omega,h2,rfl⟩ (by simp only;omega)
  ·simp only [aw hbs,ag,aa]
   rw [show (b - s+1).toNat=0 by omega]
   exact f1 _ _ _ _ hS
theorem ynm (k0:Int×Int×Int×List y9×List y0×List y7×List y6×List yf×Int×Int×List y9×List y0×List y7×List y6×Int×List y9×List y0×List y7×List y6×List yf×List yf→Option P7a) (k1:Int×Int×List y9×List y0×List y7×List y6×List yf×Int×Int×Int×List y9×List y0×List y7×List y6×List yf→Option P7a) (k2:Int×Int×List y9×List y0×List y7×List y6×List yf×Int×Int×List y9×List y0×List y7×List y6×Int×List yf→Option P7a) (s i b:Int) (y:Int) (h0:0≤i) (h1:i<(vs.length:Int)) (hb:b≤1000) (hb0: -1000≤b) (hs:0≤s)
  (f0: ∀ q' t' cs',k0 (s,6,i,q,t,l,cs,vs,z,z,q',t',l,cs',z,q,t,l,cs,vs,vs)=some (q,t,l,cs,vs,z,6))
  (f1: ∀ q' t' cs',SP q' t' l cs' vs→k1 (s,i,q,t,l,cs,vs,z,y,z,q',t',l,cs',vs)=y8O q t l cs vs z i s 0 0 q' t' cs')
  (f2: ∀ q' t' cs',SP q' t' l cs' vs→k2 (s,i,q,t,l,cs,vs,z,y,q',t',l,cs',z,vs)=y8O q t l cs vs z i s 0 0 q' t' cs'):
  vr k0 k1 k2 (Sum.inl (s,i,b,q,t,l,cs,vs,z,y,z,q,t,l,cs,vs))=y8O q t l cs vs z i s (b - s+1).toNat b q t cs:=by
 unfold vr
 refine Z2 (step:=Wj k0 k1 k2) (fun u:vq=>match u with| .inl u=>(u.2.2.1+1).toNat+1| .inr u=>(u.2.2.1+1).toNat)
  (fun u=>match u with
   | .inl u=> ∃ b q' t' cs',b≤1000∧ -1000≤b∧SP q' t' l cs' vs∧u=(s,i,b,q,t,l,cs,vs,z,y,z,q',t',l,cs',vs)
   | .inr u=> ∃ b q' t' cs',b≤1000∧ -1001≤b∧SP q' t' l cs' vs∧u=(s,i,b,q,t,l,cs,vs,z,y,q',t',l,cs',z,vs))
  (fun u=>match u with
   | .inl u=>y8O q t l cs vs z i s (u.2.2.1 - s+1).toNat u.2.2.1 u.2.2.2.2.2.2.2.2.2.2.2.1 u.2.2.2.2.2.2.2.2.2.2.2.2.1 u.2.2.2.2.2.2.2.2.2.2.2.2.2.2.1
   | .inr u=>y8O q t l cs vs z i s (u.2.2.1 - s+1).toNat u.2.2.1 u.2.2.2.2.2.2.2.2.2.2.1 u.2.2.2.2.2.2.2.2.2.2.2.1 u.2.2.2.2.2.2.2.2.2.2.2.2.2.1) ?_ _ ⟨b,q,t,cs,hb,hb0,h,rfl⟩ (by simp only;omega)
 intro again u hu hag
 cases u with
 |inl u=>
  obtain ⟨b,q',t',cs',k1',k2',hS,rfl⟩:=hu
  unfold Wj nz
  simp only at hag ⊢
  by_cases hbs:b≥s
  ·obtain ⟨r,q2,t2,cs2,e1,h2⟩:=Jz z hS i b h0 h1
   have hw:Go.IntKind.wrap .i64 (b - 1)=b - 1:=w64 (by omega) (by omega)
   simp only [ax hbs,ai,aa,y3b z hS,e1,hw,y8M z h]
   rw [show (b - s+1).toNat=(b - 1 - s+1).toNat+1 by omega,y8O,e1]
   cases r with
   |false=>exact f0 _ _ _
   |true=>exact hag (.inr (s,i,b - 1,q,t,l,cs,vs,z,y,q2,t2,l,cs2,z,vs)) ⟨b - 1,q2,t2,cs2,by omega,by omega,h2,rfl⟩ (by simp only;omega)
  ·simp only [aw hbs,ag]
   rw [show (b - s+1).toNat=0 by omega]
   exact f1 _ _ _ hS
 |inr u=>
  obtain ⟨b,q',t',cs',k1',k2',hS,rfl⟩:=hu
  unfold Wj nz
  simp only at hag ⊢
  by_cases hbs:b≥s
  ·obtain ⟨r,q2,t2,cs2,e1,h2⟩:=Jz z hS i b h0 h1
   have hw:Go.IntKind.wrap .i64 (b - 1)=b - 1:=w64 (by omega) (by omega)
   simp only [ax hbs,ai,aa,y3b z hS,e1,hw,y8M z h]
   rw [show (b - s+1).toNat=(b - 1 - s+1).toNat+1 by omega,y8O,e1]
   cases r with
   |false=>exact f0 _ _ _
   |true=>exact hag (.inr (s,i,b - 1,q,t,l,cs,vs,z,y,q2,t2,l,cs2,z,vs)) ⟨b - 1,q2,t2,cs2,by omega,by omega,h2,rfl⟩ (by simp only;omega)
  ·simp only [aw hbs,ag]
   rw [show (b - s+1).toNat=0 by omega]
   exact f2 _ _ _ hS
theorem yg9 (n:ByteArray) (s:Int) (hn:n.size≤60):vt (q,t,l,cs,vs,z,n,s)=jw (q,t,l,cs,vs,z,n,s):=by
 unfold vt jw nz
 simp only [WU z h n (kH hn),Vw z h n (kH hn),aB,wF z h,y8M z h,zW q t l cs vs z _ h.S.2.2.2.2.2,YP,Yd,aa,yhj]
 cases hb:jW q t l cs vs z n 0==0 with
 |false=>
  have hne:(jW q t l cs vs z n 0 !=0)=true:=by
   rw [bne,hb]
   rfl
  simp only [ag,aa,hne,ai]
 |true=>
  have h0:jW q t l cs vs z n 0=0:=by simpa using hb
  cases hs:inR s 1 12 with
  |false=>rfl
  |true=>
   have hne:(jW q t l cs vs z n 0 !=0)=false:=by
    rw [bne,hb]
    rfl
   simp only [ai,aa,ay,ag,hne]
   obtain ⟨hi,hp⟩:=yct z h0
   have hs':=zX.1 hs
   have hr:=ykI z h hp hi.1 hi.2
   have hw:Go.IntKind.wrap .i64 ((yd vs (yR vs n)).2.2.1 - 1)=(yd vs (yR vs n)).2.2.1 - 1:=w64 (by omega) (by omega)
   have fS: ∀ (ok:Bool) q' t' cs',SP q' t' l cs' vs→(if (0:Int)≤yR vs n then if yR vs n<((List.length vs:Nat):Int) then yS (q,t,l,cs,vs,z,q',t',l,cs',List.set vs (Int.toNat (yR vs n)) ((yd vs (yR vs n)).1,(yd vs (yR vs n)).2.1,s,(yd vs (yR vs n)).2.2.2),z,ok) else none else none)=if ok=true then y8O q t l cs vs z (yR vs n) s 0 0 q' t' cs' else some (q,t,l,cs,vs,z,6):=fun ok q' t' cs' hS=>by
    rw [af hi.1,af hi.2,y6h z h (yph h _ s hi.1 hi.2 hS)]
    cases ok with
    |false=>rfl
    |true=>
     rw [y8O]
     simp
   have fI: ∀ q' t' cs',SP q' t' l cs' vs→(if (0:Int)≤yR vs n then if yR vs n<((List.length vs:Nat):Int) then zi (q,t,l,cs,vs,z,q',t',l,cs',List.set vs (Int.toNat (yR vs n)) ((yd vs (yR vs n)).1,(yd vs (yR vs n)).2.1,s,(yd vs (yR vs n)).2.2.2),z,true) else none else none)=y8O q t l cs vs z (yR vs n) s 0 0 q' t' cs':=fun q' t' cs' hS=>by
    rw [af hi.1,af hi.2,qU z h (yph h _ s hi.1 hi.2 hS),y8O]
    simp
   rw [af hi.1,af hi.2,af hi.1,af hi.2,hw]
   refine (ynm z h _ _ _ s (yR vs n) _ 0 hi.1 hi.2 (by omega) (by omega) (by omega) (fun _ _ _=>rfl) (fun q' t' cs' hS=>fI q' t' cs' hS) (fun q' t' cs' hS=>fI q' t' cs' hS)).trans (ynl z h _ _ s (yR vs n) _ 0 hi.1 hi.2 (by omega) (by omega) (by omega) (fun ok q' t' cs' hS=>fS ok q' t' cs' hS) (fun ok q' t' cs' hS=>fS ok q' t' cs' hS)).symm
end
theorem ykR (x:List Int) (hx:x.length≤1099511627776): ∃ c p s q t l cs vs z,ku x=some (c,p,s,q,t,l,cs,vs,z)∧YQ c p∧SP q t l cs vs:=by
 obtain ⟨s0,e0⟩:=ypd x hx
 obtain ⟨m,e1,m0,m1⟩:=ykQ x 14 hx (by omega)
 obtain ⟨q,t,l,cs,vs,z,p3,s3,e3,h3,hS⟩:=y6j x 0 s0 m (yJG x hx) (by omega) (by omega)
 unfold ku nz
 simp only [e0,e1,e3,aa]
 exact ⟨_,_,_,_,_,_,_,_,_,rfl,h3,hS⟩
theorem Res.SP {q:List y9} {t:List y0} {l:List y7} {cs:List y6} {vs:List yf} {z:Int} (h:SP q t l cs vs) {o:Option P7a} (hr:Res q t l cs vs z o): ∃ q' t' l' cs' vs' z' c,o=some (q',t',l',cs',vs',z',c)∧Pl.SP q' t' l' cs' vs':=by
 obtain ⟨q',t',l',cs',vs',z',c,e,hc⟩:=hr
 refine ⟨q',t',l',cs',vs',z',c,e,?_⟩
 rcases hc with hc|hc
 ·exact (y0B hc).sp
 ·simp only [aY] at hc
  obtain ⟨rfl,rfl,rfl,rfl,rfl,rfl⟩:=hc
  exact h
theorem yeN {q:List y9} {t:List y0} {l:List y7} {cs:List y6} {vs:List yf} (z:Int) (h:SP q t l cs vs):YN (q,t,l,cs,vs,z,q,t,l,cs,vs,z)=some true:=by
 rw [y6F z h.S,y8N]
end Go.Proofs.YtekbnpmmjciloaaGreat.Pl
namespace Go.Proofs.YtekbnpmmjciloaaGreat.Pl
open Go.Proofs.YtekbnpmmjciloaaGreat.R Go.Proofs.YtekbnpmmjciloaaGreat.XA
theorem yeO {A:Type} [BEq A] [LawfulBEq A]: ∀ (l m:List A),l.Nodup→(∀ x∈l,x∈m)→l.length≤m.length
 |[],_,_,_=>bQ _
 |a::l,m,hn,hs=>by
  have h1:=cj.1 hn
  have ha:=hs a (by simp)
  have h2:=yeO l (m.erase a) h1.2 fun x hx=>(List.mem_erase_of_ne (by rintro rfl;exact h1.1 hx)).2 (hs x (by simp [hx]))
  rw [List.length_erase_of_mem ha] at h2
  have:=List.length_pos_of_mem ha
  simp only [ah]
  omega
def yga (k:y8):Bool:=k.2.2.1==1
def y0i (ks:List y8):List Int:=(ks.filter yga).map fun k:y8=>k.2.2.2.1
def y1G:List y6→Int→List Int
 |[],_=>[]
 |c::l,i=>if c.2.1=true then i::y1G l (i+1) else y1G l (i+1)
theorem y4p: ∀ (l:List y6) (i:Int) (j:Nat),j<l.length→(l.getD j zv).2.1=true→i+j∈y1G l i
 |c::l,i,0,_,h=>by
  have h':c.2.1=true:=h
  rw [y1G,af h']
  simp
 |c::l,i,j+1,hj,h=>by
  have:=y4p l (i+1) j (by simpa using hj) (by simpa using h)
  rw [show i+((j+1:Nat):Int)=i+1+j by omega,y1G]
  split
  ·exact bI _ this
  ·exact this
theorem ycv: ∀ (l:List y6) (s i:Int),0≤s→s+l.length≤1048576→l.foldl y1A s=s+(y1G l i).length
 |[],s,_,_,_=>by simp [y1G]
 |c::l,s,i,h0,h1=>by
  simp only [ah] at h1
  rw [ba,y1G]
  unfold y1A
  split
  ·rw [w64 (by omega) (by omega)]
   have:=ycv l (s+1) (i+1) (by omega) (by omega)
   unfold y1A at this
   rw [this,ah]
   omega
  ·have:=ycv l s (i+1) h0 (by omega)
   unfold y1A at this
   rw [this]
theorem ygb: ∀ (l:List y8) (s:Int),0≤s→s+l.length≤1048576→l.foldl y31 s=s+(y0i l).length
 |[],s,_,_=>by simp [y0i]
 |k::l,s,h0,h1=>by
  simp only [ah] at h1
  rw [ba]
  unfold y31
  by_cases hk:(k.2.2.1==1)=true
  ·rw [af hk,w64 (by omega) (by omega)]
   have:=ygb l (s+1) (by omega) (by omega)
   unfold y31 at this
   rw [this]
   have hk':yga k=true:=hk
   simp only [y0i,cD,hk',aB,bB,ah]
   omega
  ·rw [am hk]
   have:=ygb l s h0 (by omega)
   unfold y31 at this
   rw [this]
   have hk':yga k=false:=by simpa [yga] using hk
   simp only [y0i,cD,hk',aX,aU]
section
variable {ks:List y8} {l:List y7} {cs:List y6} (h:VH ks l cs=true)
include h
theorem ykS:Zm (yit ks l cs) ks 0=false∧ks.foldl y31 0=y8E cs:=by
 unfold VH at h
 simp only [al,bd,bJ] at h
 exact h
theorem ycw (j:Nat) (hj:j<ks.length) (hd:yga (ks.getD j yX)=true):(0≤(ks.getD j yX).2.2.2.1∧(ks.getD j yX).2.2.2.1<(cs.length:Int)∧(cs.getD (ks.getD j yX).2.2.2.1.toNat zv).2.1=true)∧ ∀ i,i<j→yga (ks.getD i yX)=true→(ks.getD i yX).2.2.2.1≠(ks.getD j yX).2.2.2.1:=by
 have h1:=y4V yX ks 0 (ykS h).1 j hj
 unfold yit at h1
 have hd':((ks.getD j yX).2.2.1==1)=true:=hd
 simp only [hd',aL,br,bc] at h1
 obtain ⟨_,h2,h3⟩:=h1
 refine ⟨?_,fun i hi hdi he=> ?_⟩
 ·unfold QT at h2
  split at h2
  ·rename_i hh
   simp only [al] at hh
   have:=zX.1 hh.1
   exact ⟨this.1,by omega,hh.2.1⟩
  ·cases h2
 ·have hlen:(ks.take j).length=j:=by simp;omega
  rw [show ((0:Int)+(j:Int)).toNat=j by omega] at h3
  have h4:=y4V yX (ks.take j) 0 h3 i (by omega)
  unfold zA at h4
  have e:(ks.take j).getD i yX=ks.getD i yX:=by
   rw [au,au,aD,af hi]
  rw [e,show ((ks.getD i yX).2.2.1==1)=true from hdi,he] at h4
  simp at h4
theorem ykT:(y0i ks).Nodup:=by
 unfold y0i List.Nodup
 rw [cC,List.pairwise_filter,List.pairwise_iff_getElem]
 intro i j hi hj hij h1 h2
 have ei:ks.getD i yX=ks[i]:=by simp [hi]
 have ej:ks.getD j yX=ks[j]:=by simp [hj]
 have:=(ycw h j hj (by rw [ej];exact h2)).2 i hij (by rw [ei];exact h1)
 rw [ei,ej] at this
 exact this
theorem ykU (hk:ks.length≤1048576) (hc:cs.length≤1048576) {i:Int} (i0:0≤i) (i1:i<(cs.length:Int)) (hu:(cs.getD i.toNat zv).2.1=true):
  ¬ YD (zA i 0) ks 0<0∧ ∀ j:Nat,j<ks.length→(j:Int)≠YD (zA i 0) ks 0→zA i 0 (ks.getD j yX)=false:=by
 have hmem:i∈y0i ks:=by
  refine Classical.byContradiction fun hn=> ?_
  have h1:=yeO (i::y0i ks) (y1G cs 0) (cj.2 ⟨hn,ykT h⟩) fun x hx=>by
   rcases aA.1 hx with rfl|hx
   ·have:=y4p cs 0 x.toNat (by omega) hu
    rwa [show (0:Int)+(x.toNat:Int)=x by omega] at this
   ·obtain ⟨k,hk,rfl⟩:=b_.1 hx
    obtain ⟨hk,hd⟩:=cF.1 hk
    obtain ⟨j,hj,rfl⟩:=List.mem_iff_getElem.1 hk
    have ej:ks.getD j yX=ks[j]:=by simp [hj]
    obtain ⟨⟨a1,a2,a3⟩,_⟩:=ycw h j hj (by rw [ej];exact hd)
    rw [ej] at a1 a2 a3
    have:=y4p cs 0 (ks[j].2.2.2.1).toNat (by omega) a3
    rwa [show (0:Int)+((ks[j].2.2.2.1).toNat:Int)=ks[j].2.2.2.1 by omega] at this
  have h2:=(ykS h).2
  unfold y8E at h2
  rw [ygb ks 0 (aH _) (by omega),ycv cs 0 0 (aH _) (by omega)] at h2
  simp only [ah] at h1
  omega
 obtain ⟨k,hk,rfl⟩:=b_.1 hmem
 obtain ⟨hk,hd⟩:=cF.1 hk
 obtain ⟨j,hj,rfl⟩:=List.mem_iff_getElem.1 hk
 have ej:ks.getD j yX=ks[j]:=by simp [hj]
 have hdj:zA (ks[j].2.2.2.1) 0 ks[j]=true:=by
  unfold zA
  rw [show (ks[j].2.2.1==1)=true from hd]
  simp
 have hf: ¬ YD (zA (ks[j].2.2.2.1) 0) ks 0<0:=fun hneg=>by
  have hall: ∀ (l:List y8) (i:Int),0≤i→YD (zA (ks[j].2.2.2.1) 0) l i<0→ ∀ a∈l,zA (ks[j].2.2.2.1) 0 a=false:=by
   intro l
   induction l with
   |nil=>intro _ _ _ a ha;simp at ha
   |cons b l ih=>
    intro i hi hl a ha
    rw [YD] at hl
    split at hl
    ·omega
    ·rename_i hb
     rcases aA.1 ha with rfl|ha
     ·simpa using hb
     ·exact ih (i+1) (by omega) hl a ha
  rw [hall ks 0 (aH _) hneg _ hk] at hdj
  cases hdj
 refine ⟨hf,fun j' hj' hne=> ?_⟩
 rcases Js (zA (ks[j].2.2.2.1) 0) yX ks 0 (aH _) with h1|⟨h1,h2,h3⟩
 ·omega
 ·rw [cK] at h3
  have hkey: ∀ k:y8,zA (ks[j].2.2.2.1) 0 k=true→yga k=true∧k.2.2.2.1=ks[j].2.2.2.1:=fun k hk=>by
   unfold zA at hk
   rw [al,bJ (a:=k.2.2.2.1)] at hk
   exact hk
  cases hdup:zA (ks[j].2.2.2.1) 0 (ks.getD j' yX) with
  |false=>rfl
  |true=>
   obtain ⟨a1,a2⟩:=hkey _ hdup
   obtain ⟨b1,b2⟩:=hkey _ h3
   have hm':(YD (zA (ks[j].2.2.2.1) 0) ks 0).toNat<ks.length:=by omega
   rcases cw (show j'≠(YD (zA (ks[j].2.2.2.1) 0) ks 0).toNat by omega) with hlt|hlt
   ·exact absurd (a2.trans b2.symm) ((ycw h _ hm' b1).2 j' hlt a1)
   ·exact absurd (b2.trans a2.symm) ((ycw h j' hj' a1).2 _ hlt b1)
end
theorem y8P (q:List Int) (t:List y0) (l:List y7) (cs:List y6) (vs:List yf) (z i:Int) (ht:TOk t):JI (q,t,l,cs,vs,z,i)=some (if YD (zA i 0) (yW t) 0<0 then (0,0,0,0,0) else (yW t).getD (YD (zA i 0) (yW t) 0).toNat yX):=by
 have ek:yY (q,t)=some (yW t):=YX q t (by have:=ht.len;omega) ht.nodes ht.sum
 have hk:=ht.keys
 unfold JI Qv nz
 simp only [ek,aa]
 refine (Yr (step:=ZU _ _) (fun j=>(i,j,0,0,0,0,0,yW t)) (zA i 0) (fun j=>some ((yW t).getD j.toNat yX)) (some (0,0,0,0,0)) yX (yW t) (by omega) ?_ ?_).trans ?_
 ·intro again j h0 h1
  have hw:Go.IntKind.wrap .i64 (j+1)=j+1:=w64 (by omega) (by omega)
  unfold ZU zA nz
  have hx:(yW t).getD j.toNat yX=yi (yW t) j:=rfl
  rw [hx]
  simp only [ae,ac,h0,h1,aB,hw]
  cases ((yi (yW t) j).2.2.1==1)<;>cases ((yi (yW t) j).2.2.2.1==i)<;>rfl
 ·intro again j hj
  unfold ZU nz
  simp only [ae,ac,am hj]
 ·split<;>rfl
section
variable (q:List y9) (t:List y0) (l:List y7) (cs:List y6) (vs:List yf) (z:Int)
def y3c (i:Int):y8:=(yW t).getD (YD (zA i 0) (yW t) 0).toNat yX
def QW (i:Int):List y6:=(vO cs (cs.getD i.toNat zv).2.2).1
def y0j (i:Int):List Int×List y0×Bool:=yw q t ((y3c t i).1,(y3c t i).2.1,(y3c t i).2.2.1,ja cs,((QW cs i).getD (ja cs).toNat zv).1)
def qe (i:Int):PO×Bool:=(((y0j q t cs i).1,(y0j q t cs i).2.1,l,y6A (QW cs i) i,vs,z),(y0j q t cs i).2.2)
noncomputable def ykV (i:Int):PO×Bool:=
 if yK q t l cs vs z=true∧0≤i∧i≤23∧(cs.getD i.toNat zv).2.1=true∧ ¬ ja cs<0∧ja cs≤i then ye9 (q,t,l,cs,vs,z) (qe q t l cs vs z i) else ((q,t,l,cs,vs,z),false)
theorem y0E {i:Int} (h: ¬ (yK q t l cs vs z=true∧0≤i∧i≤23∧(cs.getD i.toNat zv).2.1=true∧ ¬ ja cs<0∧ja cs≤i)):ykV q t l cs vs z i=((q,t,l,cs,vs,z),false):=am h
variable {q t l cs vs} (h:SP q t l cs vs)
include h
theorem yeP (i:Int):SP (qe q t l cs vs z i).1.1 (qe q t l cs vs z i).1.2.1 (qe q t l cs vs z i).1.2.2.1 (qe q t l cs vs z i).1.2.2.2.1 (qe q t l cs vs z i).1.2.2.2.2.1:=
 (WT _ h.tq).sp h h.S.2.2.2.1 (by
  have h1:=y38 (QW cs i) i
  have h2:=y5c cs (cs.getD i.toNat zv).2.2
  have h3:=h.S.2.2.2.2.1
  show (y6A (QW cs i) i).length≤_
  unfold QW at h1 ⊢
  omega)
theorem y3v (hp:yK q t l cs vs z=true):Yb cs=true∧VH (yW t) l cs=true∧ZG q t=true:=by
 unfold yK at hp
 simp only [al] at hp
 exact ⟨hp.2.2.1,hp.2.2.2.2.2.2,hp.1⟩
omit h in
theorem yeQ {cs:List y6} (hc:Yb cs=true) (i:Nat) (hi:i<cs.length):isW (cs.getD i zv).2.2=true:=by
 unfold Yb at hc
 simp only [al,bd] at hc
 have:=y4V zv cs 0 hc.1 i hi
 unfold ydM at this
 simp only [aL,bc] at this
 exact this.2.1
theorem yeR (i:Int):YJ (q,t,l,cs,vs,z,i)=some (y5a (ykV q t l cs vs z i)):=by
 have hc:=h.S.2.2.2.2.1
 have hq:=h.tq
 have hm:Go.IntKind.wrap .i64 ((cs.length:Int) - 1)=(cs.length:Int) - 1:=w64 (by omega) (by omega)
 have ec:yo (q,t,l,cs,vs,z)=some (q,t,l,cs,vs,z):=vG q t l cs vs z h.S
 unfold YJ nz
 simp only [ec,Ys z h,YP,hm,aa]
 cases hp:yK q t l cs vs z with
 |false=>
  rw [y0E _ _ _ _ _ _ fun hh=>by rw [hp] at hh;exact Bool.noConfusion hh.1]
  rfl
 |true=>
  obtain ⟨hcs,hfit,htr⟩:=y3v z h hp
  have h24:=yco hcs
  simp only [ay,ag,aa]
  cases hi:inR i 0 ((cs.length:Int) - 1) with
  |false=>
   rw [y0E _ _ _ _ _ _ fun hh=>by
    rw [zX.2 ⟨hh.2.1,by have:=hh.2.2.1;omega⟩] at hi
    cases hi]
   rfl
  |true=>
   obtain ⟨i0,i1⟩:=zX.1 hi
   have i2:i<(cs.length:Int):=by omega
   have hrd:ym cs i=cs.getD i.toNat zv:=rfl
   simp only [ay,ag,af i0,af i2,hrd,aa]
   cases hu:(cs.getD i.toNat zv).2.1 with
   |false=>
    rw [y0E _ _ _ _ _ _ fun hh=>by rw [hu] at hh;exact Bool.noConfusion hh.2.2.2.1]
    rfl
   |true=>
    have hw:=yeQ hcs i.toNat (by omega)
    obtain ⟨hf,_⟩:=ykU hfit hq.T.keys (by omega) i0 i2 hu
    simp only [ay,ag,y8P q t l cs vs z i hq.T,y1Y cs _ hc,aa,am hf]
    by_cases hfree:ja cs<0
    ·rw [y0E _ _ _ _ _ _ fun hh=>hh.2.2.2.2.1 hfree,y5K fun hh=>hh.2.2 hfree]
     rfl
    ·obtain ⟨f0,f1,f2⟩:=ycu hfree
     have htk:=y7f ⟨hcs,hw,hfree⟩
     have hcm:QW cs i=cs.set (ja cs).toNat ((cs.getD (ja cs).toNat zv).1,true,(cs.getD i.toNat zv).2.2):=by
      unfold QW
      rw [htk]
     rw [htk,← hcm]
     have hcl:(QW cs i).length=cs.length:=by
      unfold QW
      exact y5c _ _
     simp only [ay,ag,aa]
     by_cases hgt:ja cs>i
     ·rw [ax hgt,ai,y0E _ _ _ _ _ _ fun hh=>by have:=hh.2.2.2.2.2;omega]
      rfl
     ·rw [aw hgt,ag,af f0,af (by omega)]
      have hmk:ykV q t l cs vs z i=ye9 (q,t,l,cs,vs,z) (qe q t l cs vs z i):=af ⟨hp,i0,by omega,hu,hfree,by omega⟩
      rw [hmk]
      have hcell:ym (QW cs i) (ja cs)=(QW cs i).getD (ja cs).toNat zv:=rfl
      have hput:=Zn q t (y3c t i).1 (y3c t i).2.1 (y3c t i).2.2.1 (ja cs) ((QW cs i).getD (ja cs).toNat zv).1 hq.T hq.Q hq.q
      have hSP:=yeP z h i
      have hpo:yV (qe q t l cs vs z i).1=some (ye8 (qe q t l cs vs z i).1):=Ys z hSP
      simp only [hcell,show (yW t).getD (YD (zA i 0) (yW t) 0).toNat yX=y3c t i from rfl]
      rw [hput]
      simp only [aa,jk (QW cs i) i (by omega)]
      unfold ye9
      cases hok:(qe q t l cs vs z i).2 with
      |false=>
       have hok':(y0j q t cs i).2.2=false:=hok
       unfold y0j at hok'
       rw [hok']
       rfl
      |true=>
       have hok':(y0j q t cs i).2.2=true:=hok
       unfold y0j at hok'
       rw [hok']
       simp only [ay,ag]
       refine Eq.trans (congrArg (fun o=>Option.bind (Option.bind o fun r12=>some (!r12)) _) hpo) ?_
       cases hb:ye8 (qe q t l cs vs z i).1<;>rfl
end
end Go.Proofs.YtekbnpmmjciloaaGreat.Pl
namespace Go.Proofs.YtekbnpmmjciloaaGreat.Pl
open Go.Proofs.YtekbnpmmjciloaaGreat.R Go.Proofs.YtekbnpmmjciloaaGreat.XA
theorem ytJ (i:Int) (k:y8):(bif (k.2.2.1==(1:Int)) then some (k.2.2.2.1==i) else some false)=some (zA i 0 k):=by
 unfold zA
 cases (k.2.2.1==1)<;>rfl
section
variable {q:List y9} {t:List y0} {l:List y7} {cs:List y6} {vs:List yf} (z:Int) (h:SP q t l cs vs)
include h
theorem yeS (i:Int):Wn (q,t,l,cs,vs,z,i)=some (y5a (ykV q t l cs vs z i)):=by
 have hc:=h.S.2.2.2.2.1
 have hq:=h.tq
 have ec:ye (q,t,l,cs,vs,z)=some (q,t,l,cs,vs,z):=wt q t l cs vs z h.S
 have ek:zz (q,t)=some (yW t):=wq q t (by have:=hq.T.len;omega) hq.T.nodes hq.T.sum
 unfold Wn nz
 simp only [y3X cs hc,ec,YE z h,Yd,aa]
 cases hp:yK q t l cs vs z with
 |false=>
  rw [y0E _ _ _ _ _ _ fun hh=>by rw [hp] at hh;exact Bool.noConfusion hh.1]
  rfl
 |true=>
  obtain ⟨hcs,hfit,htr⟩:=y3v z h hp
  have h24:=yco hcs
  simp only [ay,ag,aa]
  cases hi:inR i 0 23 with
  |false=>
   rw [y0E _ _ _ _ _ _ fun hh=>by
    rw [zX.2 ⟨hh.2.1,hh.2.2.1⟩] at hi
    cases hi]
   rfl
  |true=>
   obtain ⟨i0,i1⟩:=zX.1 hi
   have i2:i<(cs.length:Int):=by omega
   have hrd:ym cs i=cs.getD i.toNat zv:=rfl
   simp only [ay,ag,af i0,af i2,hrd,aa]
   cases hu:(cs.getD i.toNat zv).2.1 with
   |false=>
    rw [y0E _ _ _ _ _ _ fun hh=>by rw [hu] at hh;exact Bool.noConfusion hh.2.2.2.1]
    rfl
   |true=>
    have hw:=yeQ hcs i.toNat (by omega)
    obtain ⟨hf,huq⟩:=ykU hfit hq.T.keys (by omega) i0 i2 hu
    simp only [ay,ag,aa]
    by_cases hfree:ja cs<0
    ·rw [y0E _ _ _ _ _ _ fun hh=>hh.2.2.2.2.1 hfree]
     simp only [ax hfree,ai,aa]
     rfl
    ·simp only [aw hfree,ag,aa]
     by_cases hgt:ja cs>i
     ·rw [ax hgt,ai,y0E _ _ _ _ _ _ fun hh=>by have:=hh.2.2.2.2.2;omega]
      rfl
     ·obtain ⟨f0,f1,f2⟩:=ycu hfree
      have htk:=y7f ⟨hcs,hw,hfree⟩
      have hcm:QW cs i=cs.set (ja cs).toNat ((cs.getD (ja cs).toNat zv).1,true,(cs.getD i.toNat zv).2.2):=by
       unfold QW
       rw [htk]
      have hcl:(QW cs i).length=cs.length:=by
       unfold QW
       exact y5c _ _
      have hmk:ykV q t l cs vs z i=ye9 (q,t,l,cs,vs,z) (qe q t l cs vs z i):=af ⟨hp,i0,by omega,hu,hfree,by omega⟩
      rw [aw hgt,ag,hmk]
      simp only [y1X cs _ hc,htk,← hcm,ek,aa]
      have hkl:=hq.T.keys
      have hput:=Ww q t (y3c t i).1 (y3c t i).2.1 (y3c t i).2.2.1 (ja cs) ((QW cs i).getD (ja cs).toNat zv).1 hq.T hq.Q hq.q
      have hSP:=yeP z h i
      have hpo:z9 (qe q t l cs vs z i).1=some (ye8 (qe q t l cs vs z i).1):=YE z hSP
      have hfr:=qz (QW cs i) i (by omega)
      have hm1:=Js (zA i 0) yX (yW t) 0 (aH _)
      have hkey:yi (yW t) (YD (zA i 0) (yW t) 0)=y3c t i:=rfl
      generalize YD (zA i 0) (yW t) 0=m at*
      obtain ⟨m0,m1,m2⟩:0≤m∧m<((yW t).length:Int)∧zA i 0 ((yW t).getD m.toNat yX)=true:=by
       rcases hm1 with h1|⟨h1,h2,h3⟩
       ·omega
       ·rw [cK] at h3
        exact ⟨h1,by omega,h3⟩
      unfold y0Z
      refine Z2 (step:=Jf _ _ _ _) (fun x:WL=>(yW t).length - (match x with| .inl x=>x.2.2.2.1.toNat| .inr x=>x.2.2.2.1.toNat))
       (fun x=>(∃ j:Int,x= .inl (i,ja cs,((yW t).length:Int),j,q,t,l,cs,vs,z,0,z,QW cs i,yW t,q,t,l,cs,vs)∧0≤j∧j≤m)∨(∃ j:Int,x= .inr (i,ja cs,((yW t).length:Int),j,q,t,l,cs,vs,z,0,(y0j q t cs i).1,(y0j q t cs i).2.1,z,QW cs i,yW t,l,cs,vs)∧m<j∧j≤((yW t).length:Int)∧(y0j q t cs i).2.2=true))
       (fun _=>some (y5a (ye9 (q,t,l,cs,vs,z) (qe q t l cs vs z i)))) ?_ _ (.inl ⟨0,rfl,aH _,m0⟩) (by simp only;omega)
      rintro again x hinv hag
      have hstep: ∀ j:Int,0≤j→j<((yW t).length:Int)→Go.IntKind.wrap .i64 (j+1)=j+1∧(bif ((yi (yW t) j).2.2.1==(1:Int)) then some ((yi (yW t) j).2.2.2.1==i) else some false)=some (decide (j=m)):=fun j j0 j1=>by
       refine ⟨w64 (by omega) (by omega),?_⟩
       rw [ytJ]
       by_cases hjm:j=m
       ·rw [ax hjm,hjm]
        exact congrArg some m2
       ·have:=huq j.toNat (by omega) (by omega)
        rw [aw hjm]
        exact congrArg some this
      rcases hinv with ⟨j,rfl,j0,j1⟩|⟨j,rfl,j0,j1,hok⟩
      ·obtain ⟨hw2,hdup⟩:=hstep j j0 (by omega)
       unfold Jf nz
       simp only [ax (show j<((yW t).length:Int) by omega),ai,af j0,af (show j<((yW t).length:Int) by omega),hdup,hw2,aa]
       by_cases hjm:j=m
       ·subst hjm
        rw [ax rfl,ai,af f0,af (by omega),hkey]
        have hcell:ym (QW cs i) (ja cs)=(QW cs i).getD (ja cs).toNat zv:=rfl
        rw [hcell,hput]
        simp only [aa,ec]
        cases hok:(y0j q t cs i).2.2 with
        |false=>
         have hok':=hok
         unfold y0j at hok'
         rw [hok',bf,ai]
         unfold ye9
         rw [am (by
          show ¬ ((y0j q t cs i).2.2&&_)=true
          rw [hok]
          simp)]
         rfl
        |true=>
         have hok':=hok
         unfold y0j at hok'
         rw [hok',ay,ag]
         exact hag _ (.inr ⟨j+1,rfl,by omega,by omega,hok⟩) (by simp only;omega)
       ·rw [aw hjm,ag]
        exact hag _ (.inl ⟨j+1,rfl,by omega,by omega⟩) (by simp only;omega)
      ·unfold Jf nz
       by_cases hj:j<((yW t).length:Int)
       ·obtain ⟨hw2,hdup⟩:=hstep j (by omega) hj
        simp only [ax hj,ai,af (show 0≤j by omega),af hj,hdup,hw2,aa]
        rw [aw (show ¬ j=m by omega),ag]
        exact hag _ (.inr ⟨j+1,rfl,by omega,by omega,hok⟩) (by simp only;omega)
       ·simp only [aw hj,ag,hfr,aa]
        unfold ye9
        rw [show (qe q t l cs vs z i).2=true from hok]
        refine Eq.trans (congrArg (fun o=>Option.bind o _) hpo) ?_
        cases hb:ye8 (qe q t l cs vs z i).1 with
        |false=>
         simp only [aa,bf,ai,ec]
         rfl
        |true=>rfl
end
section
variable (q:List y9) (t:List y0) (l:List y7) (cs:List y6) (vs:List yf) (z:Int)
noncomputable def ynn (i:Int):PO×Bool:=if yK q t l cs vs z=true∧0≤i∧i≤(t.length:Int) - 1 then (((yik q t i).1,(yik q t i).2,l,cs,vs,z),true) else ((q,t,l,cs,vs,z),false)
theorem ycx {i:Int} (h: ¬ (yK q t l cs vs z=true∧0≤i∧i≤(t.length:Int) - 1)):ynn q t l cs vs z i=((q,t,l,cs,vs,z),false):=am h
theorem yhq {i:Int} (h:yK q t l cs vs z=true∧0≤i∧i≤(t.length:Int) - 1):ynn q t l cs vs z i=(((yik q t i).1,(yik q t i).2,l,cs,vs,z),true):=af h
variable {q t l cs vs} (h:SP q t l cs vs)
include h
theorem y6G (i:Int):YI (q,t,l,cs,vs,z,i)=some (y5a (ynn q t l cs vs z i)):=by
 have hq:=h.tq
 have hm:Go.IntKind.wrap .i64 ((t.length:Int) - 1)=(t.length:Int) - 1:=w64 (by have:=hq.T.len;omega) (by have:=hq.T.len;omega)
 have ec:yo (q,t,l,cs,vs,z)=some (q,t,l,cs,vs,z):=vG q t l cs vs z h.S
 unfold YI nz
 simp only [ec,Ys z h,YP,hm,aa]
 cases hp:yK q t l cs vs z with
 |false=>
  rw [ycx _ _ _ _ _ _ fun hh=>by rw [hp] at hh;exact Bool.noConfusion hh.1]
  rfl
 |true=>
  simp only [ay,ag,aa]
  cases hi:inR i 0 ((t.length:Int) - 1) with
  |false=>
   rw [ycx _ _ _ _ _ _ fun hh=>by
    rw [zX.2 hh.2] at hi
    cases hi]
   rfl
  |true=>
   obtain ⟨i0,i1⟩:=zX.1 hi
   rw [yhq _ _ _ _ _ _ ⟨hp,i0,i1⟩,yeE q t i (y1a (y3v z h hp).2.2) h.S.1 i0 (by omega)]
   rfl
theorem y6H (i:Int):Wm (q,t,l,cs,vs,z,i)=some (y5a (ynn q t l cs vs z i)):=by
 have hq:=h.tq
 have hm:Go.IntKind.wrap .i64 ((t.length:Int) - 1)=(t.length:Int) - 1:=w64 (by have:=hq.T.len;omega) (by have:=hq.T.len;omega)
 have ec:ye (q,t,l,cs,vs,z)=some (q,t,l,cs,vs,z):=wt q t l cs vs z h.S
 unfold Wm nz
 simp only [ec,YE z h,Yd,hm,aa]
 cases hp:yK q t l cs vs z with
 |false=>
  rw [ycx _ _ _ _ _ _ fun hh=>by rw [hp] at hh;exact Bool.noConfusion hh.1]
  rfl
 |true=>
  simp only [ay,ag,aa]
  cases hi:inR i 0 ((t.length:Int) - 1) with
  |false=>
   rw [ycx _ _ _ _ _ _ fun hh=>by
    rw [zX.2 hh.2] at hi
    cases hi]
   rfl
  |true=>
   obtain ⟨i0,i1⟩:=zX.1 hi
   rw [yhq _ _ _ _ _ _ ⟨hp,i0,i1⟩,yeF q t i (y1a (y3v z h hp).2.2) h.S.1 i0 (by omega)]
   rfl
end
end Go.Proofs.YtekbnpmmjciloaaGreat.Pl
namespace Go.Proofs.YtekbnpmmjciloaaGreat.Pl
open Go.Proofs.YtekbnpmmjciloaaGreat.R Go.Proofs.YtekbnpmmjciloaaGreat.XA
theorem y8s {T A S R:Type} {step:(T→Option R)→T→Option R} (da:A) (g:S→A→S) (l:List A) (St0 St1:Int→S→T) (k:S→Option R) (I:S→Prop) (hl:l.length≤1099511627776)
  (h0: ∀ again i s,0≤i→i<((List.length l:Nat):Int)→I s→step again (St0 i s)=again (St1 (i+1) (g s (l.getD i.toNat da))))
  (h1: ∀ again i s,0≤i→i<((List.length l:Nat):Int)→I s→step again (St1 i s)=again (St1 (i+1) (g s (l.getD i.toNat da))))
  (hI: ∀ s a,I s→a∈l→I (g s a))
  (hd0: ∀ again i s,¬ i<((List.length l:Nat):Int)→step again (St0 i s)=k s) (hd1: ∀ again i s,¬ i<((List.length l:Nat):Int)→step again (St1 i s)=k s) (s:S) (hs:I s):zI step zY (St0 0 s)=k (l.foldl g s):=by
 have key: ∀ (n:Nat) (i:Int) (s:S),0≤i→i≤l.length→I s→l.length - i.toNat<n→zI step n (St1 i s)=k ((l.drop i.toNat).foldl g s):=by
  intro n
  induction n with
  |zero=>intro i s _ _ _ hn;omega
  |succ n ih=>
   intro i s i0 i1 hs hn
   rw [zI]
   by_cases hi:i<((List.length l:Nat):Int)
   ·rw [h1 _ i s i0 hi hs,ih (i+1) _ (by omega) (by omega) (hI s _ hs (z5 da l i i0 hi)) (by omega),Jr da l i i0 hi,ba]
   ·rw [hd1 _ i s hi,bO (by omega)]
    rfl
 have hF:zY=(zY - 1)+1:=by
  have:=y1s
  omega
 rw [hF,zI]
 by_cases h:(0:Int)<((List.length l:Nat):Int)
 ·rw [h0 _ 0 s (aH _) h hs,key _ _ _ (by omega) (by omega) (hI s _ hs (z5 da l 0 (aH _) h)) (by
   have:=y1s
   omega)]
  congr 1
  have:=Jr da l 0 (aH _) h
  rw [show l.drop (0:Int).toNat=l from rfl] at this
  conv=>rhs;rw [this,ba]
 ·rw [hd0 _ 0 s h]
  have:l=[]:=aP.1 (by omega)
  subst this
  rfl
section
variable {q:List y9} {t:List y0} {l:List y7} {cs:List y6} {vs:List yf} (z:Int) (h:SP q t l cs vs)
include h
theorem yip (k:Int) (n m:ByteArray) (a b:Int) (hn:n.size≤60) (hm:m.size≤60):jL (q,t,l,cs,vs,z,k,n,m,a,b)=zQ (q,t,l,cs,vs,z,k,n,m,a,b):=by
 unfold zQ kj jL nz
 simp only [y39 k n m a b (kH hn) (kH hm),y6g k n m a b (kH hn) (kH hm),Ys z h,YE z h,wF z h,y8M z h,aa,yg3 z h n a hn,ykJ z h n m _ hn hm,ykK z h n hn,yin z h n a b hn,yeJ z h n a hn,yg9 z h n a hn,y1c z h,y5J z h,y6G z h,y6H z h,yeR z h,yeS z h]
 cases ho:ype k n m a b with
 |false=>rfl
 |true=>
  have hk:1≤k∧k≤9:=by
   unfold ype at ho
   simp only [al] at ho
   exact zX.1 ho.1.1.1.1.1
  cases yK q t l cs vs z with
  |false=>rfl
  |true=>
   simp only [ay,ag,aa]
   have hc:k=1∨k=2∨k=3∨k=4∨k=5∨k=6∨k=7∨k=8∨k=9:=by omega
   rcases hc with rfl|rfl|rfl|rfl|rfl|rfl|rfl|rfl|rfl<;>rfl
end
noncomputable def apK (p:PO) (o:y5f):PO×Int:=match zQ (p.1,p.2.1,p.2.2.1,p.2.2.2.1,p.2.2.2.2.1,p.2.2.2.2.2,o) with
 |some r=>((r.1,r.2.1,r.2.2.1,r.2.2.2.1,r.2.2.2.2.1,r.2.2.2.2.2.1),r.2.2.2.2.2.2)
 |none=>(p,0)
def SPa (p:PO):Prop:=SP p.1 p.2.1 p.2.2.1 p.2.2.2.1 p.2.2.2.2.1
def OpS (o:y5f):Prop:=ByteArray.size o.2.1≤60∧ByteArray.size o.2.2.1≤60
theorem y5O {p:PO} {o:y5f} (h:SPa p) (ho:OpS o):zQ (p.1,p.2.1,p.2.2.1,p.2.2.2.1,p.2.2.2.2.1,p.2.2.2.2.2,o)=some ((apK p o).1.1,(apK p o).1.2.1,(apK p o).1.2.2.1,(apK p o).1.2.2.2.1,(apK p o).1.2.2.2.2.1,(apK p o).1.2.2.2.2.2,(apK p o).2)∧SPa (apK p o).1:=by
 obtain ⟨q',t',l',cs',vs',z',c,e,hc⟩:=yhm p.2.2.2.2.2 h o.1 o.2.1 o.2.2.1 o.2.2.2.1 o.2.2.2.2 ho.1 ho.2
 have e':zQ (p.1,p.2.1,p.2.2.1,p.2.2.2.1,p.2.2.2.2.1,p.2.2.2.2.2,o)=some (q',t',l',cs',vs',z',c):=e
 unfold apK
 rw [e']
 refine ⟨rfl,?_⟩
 rcases hc with hc|hc
 ·exact hc.sp
 ·simp only [aY] at hc
  obtain ⟨rfl,rfl,rfl,rfl,rfl,rfl⟩:=hc
  exact h
theorem ykW {p:PO} {o:y5f} (h:SPa p) (ho:OpS o):jL (p.1,p.2.1,p.2.2.1,p.2.2.2.1,p.2.2.2.2.1,p.2.2.2.2.2,o)=some ((apK p o).1.1,(apK p o).1.2.1,(apK p o).1.2.2.1,(apK p o).1.2.2.2.1,(apK p o).1.2.2.2.2.1,(apK p o).1.2.2.2.2.2,(apK p o).2):=
 (yip p.2.2.2.2.2 h o.1 o.2.1 o.2.2.1 o.2.2.2.1 o.2.2.2.2 ho.1 ho.2).trans (y5O h ho).1
noncomputable def ykX (l:List y5f) (p:PO):PO:=l.foldl (fun p o=>(apK p o).1) p
def yu9 (l:List y5f):Prop:=l.length≤100∧ ∀ o∈l,OpS o
theorem ykY {l:List y5f} (hl: ∀ o∈l,OpS o): ∀ {p:PO},SPa p→SPa (ykX l p):=by
 induction l with
 |nil=>exact fun h=>h
 |cons o l ih=>exact fun h=>ih (fun o ho=>hl o (bI _ ho)) (y5O h (hl o bD)).2
theorem yno {p:PO} {l:List y5f} (h:SPa p) (hl:yu9 l):Jp (p.1,p.2.1,p.2.2.1,p.2.2.2.1,p.2.2.2.2.1,p.2.2.2.2.2,l)=some (ykX l p):=by
 have h1:=hl.1
 unfold Jp y17 nz
 have hc:yo (p.1,p.2.1,p.2.2.1,p.2.2.2.1,p.2.2.2.2.1,p.2.2.2.2.2)=some p:=wF p.2.2.2.2.2 h
 simp only [hc,aa]
 have hr: ∀ (i:Int) (p:PO),0≤i→i<((List.length l:Nat):Int)→SPa p→zQ (p.1,p.2.1,p.2.2.1,p.2.2.2.1,p.2.2.2.2.1,p.2.2.2.2.2,(vN l i).1,(vN l i).2.1,(vN l i).2.2.1,(vN l i).2.2.2.1,(vN l i).2.2.2.2)=some ((apK p (vN l i)).1.1,(apK p (vN l i)).1.2.1,(apK p (vN l i)).1.2.2.1,(apK p (vN l i)).1.2.2.2.1,(apK p (vN l i)).1.2.2.2.2.1,(apK p (vN l i)).1.2.2.2.2.2,(apK p (vN l i)).2):=fun i p i0 i1 hp=>(y5O hp (hl.2 _ (z5 yDy l i i0 i1))).1
 refine y8s (step:=Za _ _) yDy (fun p o=>(apK p o).1) l (fun i p=>Sum.inl (l,i,(0:Int),p.2.2.2.2.2,p.1,p.2.1,p.2.2.1,p.2.2.2.1,p.2.2.2.2.1)) (fun i p=>Sum.inr (l,i,(0:Int),p.1,p.2.1,p.2.2.1,p.2.2.2.2.2,p.2.2.2.1,p.2.2.2.2.1)) (fun p=>some p) SPa (by omega) ?_ ?_ ?_ ?_ ?_ p h
 ·intro again i p i0 i1 hp
  have hw:Go.IntKind.wrap .i64 (i+1)=i+1:=w64 (by omega) (by omega)
  simp only [nz,Za,ae,ac,af i1,af (show i<200 by omega),af i0,aa,hw,hr i p i0 i1 hp]
  rfl
 ·intro again i p i0 i1 hp
  have hw:Go.IntKind.wrap .i64 (i+1)=i+1:=w64 (by omega) (by omega)
  simp only [nz,Za,ae,ac,af i1,af (show i<200 by omega),af i0,aa,hw,hr i p i0 i1 hp]
  rfl
 ·exact fun p o hp ho=>(y5O hp (hl.2 o ho)).2
 ·intro again i p hi
  simp only [nz,Za,ae,ac,am hi,aa,aX,aU]
 ·intro again i p hi
  simp only [nz,Za,ae,ac,am hi,aa,aX,aU]
theorem ycy {p:PO} {l:List y5f} (h:SPa p) (hl:yu9 l):YM (p.1,p.2.1,p.2.2.1,p.2.2.2.1,p.2.2.2.2.1,p.2.2.2.2.2,l)=some (ykX l p):=by
 have h1:=hl.1
 unfold YM y10 nz
 have hc:ye (p.1,p.2.1,p.2.2.1,p.2.2.2.1,p.2.2.2.2.1,p.2.2.2.2.2)=some p:=y8M p.2.2.2.2.2 h
 simp only [hc,aa,am (show ¬ (200:Int)<((List.length l:Nat):Int) by omega),aR,bF,show Int.toNat (0:Int)=0 from rfl,cN]
 rw [af (aH _),af (by omega),af (aH _)]
 have hr: ∀ (i:Int) (p:PO),0≤i→i<((List.length l:Nat):Int)→SPa p→jL (p.1,p.2.1,p.2.2.1,p.2.2.2.1,p.2.2.2.2.1,p.2.2.2.2.2,(vN l i).1,(vN l i).2.1,(vN l i).2.2.1,(vN l i).2.2.2.1,(vN l i).2.2.2.2)=some ((apK p (vN l i)).1.1,(apK p (vN l i)).1.2.1,(apK p (vN l i)).1.2.2.1,(apK p (vN l i)).1.2.2.2.1,(apK p (vN l i)).1.2.2.2.2.1,(apK p (vN l i)).1.2.2.2.2.2,(apK p (vN l i)).2):=fun i p i0 i1 hp=>ykW hp (hl.2 _ (z5 yDy l i i0 i1))
 refine y8s (step:=Z9 _ _) yDy (fun p o=>(apK p o).1) l (fun i p=>Sum.inl (l,((List.length l:Nat):Int),i,(0:Int),p.2.2.2.2.2,p.1,p.2.1,p.2.2.1,p.2.2.2.1,p.2.2.2.2.1)) (fun i p=>Sum.inr (l,((List.length l:Nat):Int),i,(0:Int),p)) (fun p=>some p) SPa (by omega) ?_ ?_ ?_ ?_ ?_ p h
 ·intro again i p i0 i1 hp
  have hw:Go.IntKind.wrap .i64 (i+1)=i+1:=w64 (by omega) (by omega)
  simp only [nz,Z9,ae,ac,af i1,af i0,aa,hw,hr i p i0 i1 hp]
  rfl
 ·intro again i p i0 i1 hp
  have hw:Go.IntKind.wrap .i64 (i+1)=i+1:=w64 (by omega) (by omega)
  simp only [nz,Z9,ae,ac,af i1,af i0,aa,hw,hr i p i0 i1 hp]
  rfl
 ·exact fun p o hp ho=>(y5O hp (hl.2 o ho)).2
 ·intro again i p hi
  simp only [nz,Z9,ae,ac,am hi]
 ·intro again i p hi
  simp only [nz,Z9,ae,ac,am hi]
theorem ykZ (l:List y5f) (p:PO) (k:Nat):ykX (l.drop k) (ykX (l.take k) p)=ykX l p:=by
 unfold ykX
 rw [← List.foldl_append,List.take_append_drop]
theorem yDs (c:List Int) (p s m:Int) (h:YQ c p) (m0:0≤m) (m1:m≤12):jP (KY (c,p,s,m)) c (fun l:List y5f=>yu9 l):=by
 obtain ⟨v,p1,s1,e1,h1,v0,v1⟩:=zt c p s (m+1) h
 have hw:Go.IntKind.wrap .i64 (m+1)=m+1:=w64 (by omega) (by omega)
 unfold KY y2D nz
 simp only [hw,e1,aa]
 refine Yc (step:=KX _) (fun x:KW=>x.1.toNat) (fun x=> ∃ (k p s:Int) (o:List y5f),x=(k,c,p,s,o)∧YQ c p∧0≤k∧(o.length:Int)+k≤100∧ ∀ x∈o,OpS x) (fun _ res=>jP res c (fun l:List y5f=>yu9 l)) ?_ _ ⟨v,p1,s1,[],rfl,h1,v0,by have:=v1 (by omega);simp only [aj];omega,by simp⟩ (by have:=v1 (by omega);simp only;omega)
 rintro again x ⟨k,p,s,o,rfl,hc,k0,k1,ho⟩ hag
 unfold KX nz
 by_cases hk:k>0
 ·obtain ⟨kd,n,t,a,b,p2,s2,e2,h2,hn,ht⟩:=ynb c p s hc
  have hw:Go.IntKind.wrap .i64 (k - 1)=k - 1:=w64 (by omega) (by omega)
  simp only [ax hk,ai,e2,aa,hw]
  rw [af (by simp only [ah,aj];omega)]
  refine hag _ ⟨k - 1,p2,s2,_,rfl,h2,by omega,by simp only [ar,ah,aj];omega,fun x hx=> ?_⟩ (by simp only;omega)
  rcases aF.1 hx with hx|hx
  ·exact ho x hx
  ·rw [aW.1 hx]
   exact ⟨hn,ht⟩
 ·simp only [aw hk,ag]
  exact ⟨o,p,s,rfl,hc,by omega,ho⟩
theorem ytK (c:List Int) (p s:Int) (h:YQ c p):jP (ky (c,p,s)) c MI:=by
 obtain ⟨v,p1,s1,e1,h1,v0,v1⟩:=zt c p s 8 h
 have hv:=v1 (by omega)
 unfold ky y1U nz
 simp only [e1,aa]
 refine Yc (step:=wj _ _) (fun x:wi=>match x with| .inl x=>x.1.toNat| .inr x=>x.2.1.toNat)
  (fun x=>match x with
   | .inl x=> ∃ (k p s:Int) (l:List yO),x=(k,c,p,s,l)∧YQ c p∧0≤k∧k≤8∧MI l
   | .inr x=> ∃ (k p s:Int) (l:List yO),x=(l,k,c,p,s)∧YQ c p∧0≤k∧k≤8∧MI l) (fun _ res=>jP res c MI) ?_ _ ⟨v,p1,s1,[],rfl,h1,v0,by omega,by simp,by simp⟩ (by simp only;omega)
 have key: ∀ (again:wi→Option yq0) (k p s:Int) (l:List yO),YQ c p→0≤k→k≤8→MI l→k>0→(∀ p' s' l',YQ c p'→MI l'→jP (again (Sum.inr (l',k - 1,c,p',s'))) c MI)→jP (Option.bind (Y3 (c,p,s)) fun r2=>Option.bind (Zl (l,r2.1,r2.2.1,r2.2.2.1,r2.2.2.2.1,r2.2.2.2.2.1)) fun r3=>again (Sum.inr (r3.1,(Go.IntKind.wrap .i64 (k - (1:Int))),r2.2.2.2.2.2.1,r2.2.2.2.2.2.2.1,r2.2.2.2.2.2.2.2))) c MI:=by
  intro again k p s l hc k0 k1 hl hk hag
  obtain ⟨kd,n,t,a,b,p2,s2,e2,h2,hn,ht⟩:=ynb c p s hc
  obtain ⟨r,cd,_,e3,hr⟩:=yeI hl kd n t a b hn ht
  have hw:Go.IntKind.wrap .i64 (k - 1)=k - 1:=w64 (by omega) (by omega)
  simp only [e2,e3,aa,hw]
  exact hag _ _ _ h2 hr
 rintro again x hx hag
 cases x with
 |inl x=>
  obtain ⟨k,p,s,l,rfl,hc,k0,k1,hl⟩:=hx
  simp only [nz,wj]
  by_cases hk:k>0
  ·simp only [ax hk,ai]
   exact key again k p s l hc k0 k1 hl hk fun p' s' l' hc' hl'=>hag _ ⟨k - 1,p',s',l',rfl,hc',by omega,by omega,hl'⟩ (by simp only;omega)
  ·simp only [aw hk,ag]
   exact ⟨l,p,s,rfl,hc,hl⟩
 |inr x=>
  obtain ⟨k,p,s,l,rfl,hc,k0,k1,hl⟩:=hx
  simp only [nz,wj]
  by_cases hk:k>0
  ·simp only [ax hk,ai]
   exact key again k p s l hc k0 k1 hl hk fun p' s' l' hc' hl'=>hag _ ⟨k - 1,p',s',l',rfl,hc',by omega,by omega,hl'⟩ (by simp only;omega)
  ·simp only [aw hk,ag]
   exact ⟨l,p,s,rfl,hc,hl⟩
theorem ycz {l:List yO} (h:MI l):Jq (l,l)=some true:=by
 have h1:=h.1
 unfold Jq y18 nz
 simp only [bne_self_eq_false,ag]
 refine Yc (step:=WP _ _) (fun x:WO=>l.length - x.2.2.toNat) (fun x=> ∃ i:Int,0≤i∧x=(l,l,i)) (fun _ res=>res=some true) ?_ _ ⟨0,aH _,rfl⟩ (by simp only;omega)
 rintro again x ⟨i,i0,rfl⟩ hag
 unfold WP nz
 by_cases hi:i<((List.length l:Nat):Int)
 ·have hw:Go.IntKind.wrap .i64 (i+1)=i+1:=w64 (by omega) (by omega)
  have hs:j7 ((yG l i).2.2,(yG l i).2.2)=some true:=by
   rw [y1Z _ _ (by have:=(h.rd i0 hi).2;omega),Ka _ _ yhp]
  simp only [ax hi,ai,af i0,af hi,bV,ay,ag,aa,hs,hw]
  exact hag _ ⟨i+1,by omega,rfl⟩ (by simp only;omega)
 ·simp only [aw hi,ag]
theorem law_Applies (x:List Int) (hb:ycc x):Zt x=some true:=by
 unfold Zt y3j nz
 simp only [aa]
 cases hbig:decide (((List.length x:Nat):Int)>(1048576:Int)) with
 |true=>rfl
 |false=>
  have hx0:x.length≤1048576:=by
   have:=bR hbig
   omega
  have hx:x.length≤1099511627776:=by omega
  obtain ⟨s0,e0⟩:=ypd x hx
  obtain ⟨q,t,l,cs,vs,z,p1,s1,e1,h1,hS⟩:=y6j x 0 s0 4 (yJG x hx) (by omega) (by omega)
  obtain ⟨m,e2,m0,m1⟩:=ykQ x 12 hx (by omega)
  obtain ⟨ops,p3,s3,e3,h3,hO⟩:=yDs x p1 s1 m h1 m0 m1
  have d1:ZV x=some (q,t,l,cs,vs,z,ops):=by
   unfold ZV nz
   simp only [e0,e1,e2,e3,aa]
  obtain ⟨c4,p4,s4,q4,t4,l4,cs4,vs4,z4,e4,h4,hS4⟩:=ykR x hx
  obtain ⟨k5,n5,t5,a5,b5,p5,s5,e5,h5,hn5,ht5⟩:=yho c4 p4 s4 h4
  have d2:wd x=some (q4,t4,l4,cs4,vs4,z4,k5,n5,t5,a5,b5):=by
   unfold wd nz
   simp only [e4,e5,aa]
  obtain ⟨ms,p6,s6,e6,h6,hM⟩:=ytK x 0 s0 (yJG x hx)
  obtain ⟨k7,n7,t7,a7,b7,p7,s7,e7,h7,hn7,ht7⟩:=yho x p6 s6 h6
  have d3:j6 x=some (ms,k7,n7,t7,a7,b7):=by
   unfold j6 nz
   simp only [e0,e6,e7,aa]
  obtain ⟨v,e8,v0⟩:=yJH x 2 hb hx0 (by omega) (by omega)
  have hO1:=hO.1
  have hw:Go.IntKind.wrap .i64 (((List.length ops:Nat):Int)+1)=((List.length ops:Nat):Int)+1:=w64 (by omega) (by omega)
  obtain ⟨k,hk⟩: ∃ k,k=Int.tmod v (((List.length ops:Nat):Int)+1):=⟨_,rfl⟩
  have k0:0≤k:=by rw [hk];exact Int.tmod_nonneg _ v0
  have k1:k<((List.length ops:Nat):Int)+1:=by rw [hk];exact Int.tmod_lt_of_pos _ (by omega)
  have hP:SPa (q,t,l,cs,vs,z):=hS
  have f1:YM (q,t,l,cs,vs,z,ops)=some (ykX ops (q,t,l,cs,vs,z)):=ycy (p:=(q,t,l,cs,vs,z)) hP hO
  have f2:Jp (q,t,l,cs,vs,z,ops)=some (ykX ops (q,t,l,cs,vs,z)):=yno (p:=(q,t,l,cs,vs,z)) hP hO
  have hT:yu9 (ops.take k.toNat):=⟨by rw [ak];omega,fun o ho=>hO.2 o (a0 ho)⟩
  have hD:yu9 (ops.drop k.toNat):=⟨by rw [aC];omega,fun o ho=>hO.2 o (a_ ho)⟩
  have f3:YM (q,t,l,cs,vs,z,ops.take k.toNat)=some (ykX (ops.take k.toNat) (q,t,l,cs,vs,z)):=ycy (p:=(q,t,l,cs,vs,z)) hP hT
  have hP2:=ykY hT.2 hP
  have f4:=ycy hP2 hD
  rw [ykZ] at f4
  have hP3:=ykY hO.2 hP
  have f5:=yeN (ykX ops (q,t,l,cs,vs,z)).2.2.2.2.2 hP3
  have hP4:SPa (q4,t4,l4,cs4,vs4,z4):=hS4
  have g1:=ykW (o:=(k5,n5,t5,a5,b5)) hP4 ⟨hn5,ht5⟩
  obtain ⟨g2,hP5⟩:=y5O (o:=(k5,n5,t5,a5,b5)) hP4 ⟨hn5,ht5⟩
  have g3:=yeN (apK (q4,t4,l4,cs4,vs4,z4) (k5,n5,t5,a5,b5)).1.2.2.2.2.2 hP5
  obtain ⟨r,c,r1,r2,hr⟩:=yeI hM k7 n7 t7 a7 b7 hn7 ht7
  have r3:=ycz hr
  simp only [d1,f1,e8,aa,hw,← hk,ag]
  rw [am (by omega),af (aH _),af k0,af (by omega)]
  simp only [show Int.toNat (0:Int)=0 from rfl,cN,f3,aa,aR,bF]
  rw [af k0,af (by omega),af (aH _)]
  simp only [f4,d2,d3,g1,g2,r1,r2,f2,f5,g3,r3,aa,ai,bV]
end Go.Proofs.YtekbnpmmjciloaaGreat.Pl
