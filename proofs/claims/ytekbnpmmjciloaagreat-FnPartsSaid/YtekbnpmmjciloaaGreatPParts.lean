/- Prune, Prune2, Ops, Apply, Apply2, Apply3, Read, GetEnt, GetEnt2, GetEnt3, EntDraw, PutEnt, RdSec, TailDraw, TailDraw2, DrawP, DrawQ, Format, StoreD, RdImg, Rd, RdSpec, RdSpec2, RdImpl, RdImpl2, RdImpl3, RdImpl4, BestOf, PartsD, RoundI, Parts. No condition. -/
import Derived.Test.YtekbnpmmjciloaaGreatPCalm
set_option linter.all false
namespace Go.Proofs.YtekbnpmmjciloaaGreat.Pl
open Go.Proofs.YtekbnpmmjciloaaGreat.R Go.Proofs.YtekbnpmmjciloaaGreat.XB
structure SP (q:List yf) (t:List y6) (l:List yb) (cs:List ya) (vs:List yj):Prop where
 S:small q t l cs vs
 N: ∀ v∈vs,ByteArray.size v.1≤maxLen
structure TQ (q:List yf) (t:List y6):Prop where
 T:Jl t
 Q: ∀ n∈t,Bj n
 q:q.length≤1048576
theorem SP.tq {q:List yf} {t:List y6} {l:List yb} {cs:List ya} {vs:List yj} (h:SP q t l cs vs):TQ q t:=
 ⟨⟨h.S.2.1,fun n hn=>by have:=(vY h.S.2.2.1 hn).1;omega,h.S.2.2.1⟩,fun n hn=>vY h.S.2.2.1 hn,h.S.1⟩
theorem TQ.sp {q q':List yf} {t t':List y6} {l l':List yb} {cs cs':List ya} {vs:List yj} (h:TQ q' t') (h2:SP q t l cs vs) (hl:l'.length≤1048576) (hc:cs'.length≤1048576):SP q' t' l' cs' vs:=
 ⟨⟨h.q,h.T.len,h.T.sum,hl,hc,h2.S.2.2.2.2.2⟩,h2.N⟩
theorem TS.tq {q:List yf} {t:List y6} (h:TS t) (hq:q.length≤1048576):TQ q t:=⟨h.ok,fun n hn=>(h.node n hn).q,hq⟩
theorem Qt {q:List yf} {t:List y6} (k:y7) (h:TQ q t):TQ (zg q t k).1 (zg q t k).2.1:=by
 unfold zg;split
 ·rename_i hh;rw [zzal10] at hh;split
  ·rename_i hj;have hT:=mV hj;have:=(WU hj)
   exact hT.tq (by simp only;omega)
  ·exact h
 ·exact h
def fV (k:y7):y7:=(k.1,k.2.1,0,0,0)
def rH (q:List yf) (t:List y6) (cs:List ya) (k:y7):List ya:=if (Kv q t k.1 k.2.1).2.2.2.2.2=true∧(Kv q t k.1 k.2.1).2.2.1=1 then rF cs (Kv q t k.1 k.2.1).2.2.2.1 else cs
theorem LL (q:List yf) (t:List y6) (cs:List ya) (k:y7):(rH q t cs k).length=cs.length:=by
 unfold rH;split
 ·exact mX _ _
 ·rfl
abbrev PO:Type:=List yf×List y6×List yb×List ya×List yj×Int
section
variable (q:List yf) (t:List y6) (l:List yb) (cs:List ya) (vs:List yj) (z:Int)
def ZN (t:List y6) (i:Int):y7:=(zV t).getD i.toNat zx
def WK (step i:Int):PO×Bool:=
 if step=1∨step=2 then (((zg q t (fV (ZN t i))).1,(zg q t (fV (ZN t i))).2.1,l,rH q t cs (ZN t i),vs,z),(zg q t (fV (ZN t i))).2.2)
 else if step=3 then
  (((zg (zg q t (fV (ZN t i))).1 (zg q t (fV (ZN t i))).2.1 ((ZN t i).1,(YO l (ZN t i).2.1).getD 0 0,(ZN t i).2.2)).1,
   (zg (zg q t (fV (ZN t i))).1 (zg q t (fV (ZN t i))).2.1 ((ZN t i).1,(YO l (ZN t i).2.1).getD 0 0,(ZN t i).2.2)).2.1,l,cs,vs,z),
   (zg q t (fV (ZN t i))).2.2&&(zg (zg q t (fV (ZN t i))).1 (zg q t (fV (ZN t i))).2.1 ((ZN t i).1,(YO l (ZN t i).2.1).getD 0 0,(ZN t i).2.2)).2.2)
 else ((q,t,(rE l (l.getD i.toNat YR).1).1,cs,vs,z),(rE l (l.getD i.toNat YR).1).2)
noncomputable def y2m (p:PO):Bool:=zc p.1 p.2.1 p.2.2.1 p.2.2.2.1 p.2.2.2.2.1 p.2.2.2.2.2
noncomputable def Tt (p:PO) (r:PO×Bool):PO×Bool:=if (r.2&&y2m r.1)=true then (r.1,true) else (p,false)
noncomputable def tc:PO×Bool:=match nextK q t l cs vs z with
 |some (step,i)=>if step=0 then ((q,t,l,cs,vs,z),false) else Tt (q,t,l,cs,vs,z) (WK q t l cs vs z step i)
 |none=>((q,t,l,cs,vs,z),false)
def LM (r:PO×Bool):List yf×List y6×List yb×List ya×List yj×Int×Bool:=(r.1.1,r.1.2.1,r.1.2.2.1,r.1.2.2.2.1,r.1.2.2.2.2.1,r.1.2.2.2.2.2,r.2)
theorem Nt {step i:Int} (h:nextK q t l cs vs z=some (step,i)):step=0∨((step=1∨step=2∨step=3)∧0≤i∧i<((zV t).length:Int)∧JM q t l vs step (ZN t i)=true)∨(step=4∧0≤i∧i<(l.length:Int)):=by
 have hfind: ∀ s,(s=1∨s=2∨s=3)→ ¬ Zb (JM q t l vs s) (zV t) 0<0→(step,i)=(s,Zb (JM q t l vs s) (zV t) 0)→step=0∨((step=1∨step=2∨step=3)∧0≤i∧i<((zV t).length:Int)∧JM q t l vs step (ZN t i)=true)∨(step=4∧0≤i∧i<(l.length:Int)):=by
  intro s hs h0 he;injection he with h1 h2;subst h1 h2;rcases du (JM q t l vs step) zx (zV t) 0 (yP _) with h|⟨h1,h2,h3⟩
  ·omega
  ·rw [Int.sub_zero] at h3;exact .inr (.inl ⟨hs,h1,by omega,h3⟩)
 unfold nextK at h;split at h
 ·simp only [ma,C6] at h;by_cases h1:Zb (JM q t l vs 1) (zV t) 0<0
  ·simp only [y0 h1] at h;by_cases h2:Zb (JM q t l vs 2) (zV t) 0<0
   ·simp only [y0 h2] at h;by_cases h3:Zb (JM q t l vs 3) (zV t) 0<0
    ·simp only [y0 h3] at h;injection h with h;unfold rG at h;split at h
     ·injection h with h4 h5;exact .inl h4.symm
     ·rename_i h4;injection h with h5 h6;rcases C3 (Ts (zV t) l vs) l 0 with h|⟨h7,h8⟩
      ·omega
      ·exact .inr (.inr ⟨h5.symm,by omega,by omega⟩)
    ·simp only [y9 h3] at h;injection h with h;exact hfind 3 (by simp) h3 h.symm
   ·simp only [y9 h2] at h;injection h with h;exact hfind 2 (by simp) h2 h.symm
  ·simp only [y9 h1] at h;injection h with h;exact hfind 1 (by simp) h1 h.symm
 ·injection h with h;injection h with h1 h2;exact .inl h1.symm
variable {q t l cs vs} (h:SP q t l cs vs)
include h
theorem Nu (step i:Int):SP (WK q t l cs vs z step i).1.1 (WK q t l cs vs z step i).1.2.1 (WK q t l cs vs z step i).1.2.2.1 (WK q t l cs vs z step i).1.2.2.2.1 (WK q t l cs vs z step i).1.2.2.2.2.1:=by
 have hl:=h.S.2.2.2.1;have hc:=h.S.2.2.2.2.1;unfold WK;split
 ·exact (Qt _ h.tq).sp h hl (by rw [LL];exact hc)
 ·split
  ·exact (Qt _ (Qt _ h.tq)).sp h hl hc
  ·refine h.tq.sp h ?_ hc;unfold rE;split
   ·exact hl
   ·split
    ·unfold yjJ;exact YI (List.length_eraseIdx_le _ _) (by simpa using hl)
    ·exact hl
theorem FG (a b c d e:Int):wq (q,t,l,cs,vs,z,a,b,c,d,e)=some (if (zg q t (a,b,0,0,0)).2.2=true then (true,(zg q t (a,b,0,0,0)).1,(zg q t (a,b,0,0,0)).2.1,l,rH q t cs (a,b,c,d,e),vs,z) else (false,q,t,l,cs,vs,z)):=by
 have hq:=h.tq;unfold wq YG nz;simp only [qO q t a b hq.T hq.q,Ji q t a b 0 0 0 hq.T hq.Q hq.q,zzal0];cases hr:(zg q t (a,b,0,0,0)).2.2 with
 |false=>rfl
 |true=>
  unfold VH rH nz;simp only [yJ,yi,yo,Kw cs _ h.S.2.2.2.2.1,zzal0];cases (Kv q t a b).2.2.2.2.2 with
  |false=>rfl
  |true=>
   by_cases h1:(Kv q t a b).2.2.1=1
   ·rw [y0 ⟨rfl,h1⟩];simp only [h1,yg,zzal0,g9]
   ·rw [y9 fun hh=>h1 hh.2];simp only [yg,zzal0,ls.2 h1,yi]
theorem J1:yZ (q,t,l,cs,vs,z)=some (zc q t l cs vs z):=kT q t l cs vs z h.tq.T h.S.2.2.2.1 h.S.2.2.2.2.1 h.S.2.2.2.2.2 h.N
end
theorem Ro:(((0:Int))==0)=true:=rfl
theorem Rp:(((0:Int))==1)=false:=rfl
theorem Rq:(((0:Int))==2)=false:=rfl
theorem Rr:(((0:Int))==3)=false:=rfl
theorem Rs:(((0:Int))==4)=false:=rfl
theorem Rt:(((1:Int))==0)=false:=rfl
theorem Ru:(((1:Int))==1)=true:=rfl
theorem Rv:(((1:Int))==2)=false:=rfl
theorem Rx:(((1:Int))==3)=false:=rfl
theorem Ry:(((1:Int))==4)=false:=rfl
theorem Rz:(((2:Int))==0)=false:=rfl
theorem RB:(((2:Int))==1)=false:=rfl
theorem RC:(((2:Int))==2)=true:=rfl
theorem RD:(((2:Int))==3)=false:=rfl
theorem RE:(((2:Int))==4)=false:=rfl
theorem RF:(((3:Int))==0)=false:=rfl
theorem RG:(((3:Int))==1)=false:=rfl
theorem RH:(((3:Int))==2)=false:=rfl
theorem RJ:(((3:Int))==3)=true:=rfl
theorem RM:(((3:Int))==4)=false:=rfl
theorem RN:(((4:Int))==0)=false:=rfl
theorem RP:(((4:Int))==1)=false:=rfl
theorem RQ:(((4:Int))==2)=false:=rfl
theorem RR:(((4:Int))==3)=false:=rfl
theorem RS:(((4:Int))==4)=true:=rfl
theorem y4W:(((0:Int)) !=0)=false:=rfl
theorem FH:(((0:Int)) !=3)=true:=rfl
theorem y4X:(((1:Int)) !=0)=true:=rfl
theorem FI:(((1:Int)) !=3)=true:=rfl
theorem y4Y:(((2:Int)) !=0)=true:=rfl
theorem FJ:(((2:Int)) !=3)=true:=rfl
theorem y4Z:(((3:Int)) !=0)=true:=rfl
theorem FK:(((3:Int)) !=3)=false:=rfl
theorem y4_:(((4:Int)) !=0)=true:=rfl
theorem FL:(((4:Int)) !=3)=true:=rfl
section
variable {q:List yf} {t:List y6} {l:List yb} {cs:List ya} {vs:List yj} (z:Int) (h:SP q t l cs vs)
theorem C7 {q':List yf} {t':List y6} {l':List yb} {cs':List ya} (ok:Bool) (h':SP q' t' l' cs' vs):(Option.bind (bif (!ok) then some true else Option.bind (yZ (q',t',l',cs',vs,z)) fun r6=>some (!r6)) fun u5=>bif u5 then some (q,t,l,cs,vs,z,false) else some (q',t',l',cs',vs,z,true))=some (LM (Tt (q,t,l,cs,vs,z) ((q',t',l',cs',vs,z),ok))):=by
 rw [J1 z h'];unfold Tt y2m LM;cases ok with
 |false=>rfl
 |true=>simp only [zzal0,yJ,yi,jH];cases zc q' t' l' cs' vs z<;>rfl
include h
theorem rI:Zs (q,t,l,cs,vs,z)=some (LM (tc q t l cs vs z)):=by
 have hq:=h.tq;have hl:=h.S.2.2.2.1;have hc:=h.S.2.2.2.2.1;have hv:=h.S.2.2.2.2.2;obtain ⟨⟨step,i⟩,hn⟩:=Ns q t l cs vs z;have eK:zA (q,t)=some (zV t):=Zw q t (by have:=hq.T.len;omega) hq.T.nodes hq.T.sum;unfold Zs nz;simp only [bR q t l cs vs z h.S,FF q t l cs vs z hq.T hq.q hl hc hv h.N,hn,eK,zzal0];have hp:tc q t l cs vs z=if step=0 then ((q,t,l,cs,vs,z),false) else Tt (q,t,l,cs,vs,z) (WK q t l cs vs z step i):=by unfold tc;rw [hn]
 have erd:yy (zV t) i=ZN t i:=rfl;have h12: ∀ s:Int,s=1∨s=2→(Option.bind (wq (q,t,l,cs,vs,z,(ZN t i).1,(ZN t i).2.1,(ZN t i).2.2.1,(ZN t i).2.2.2.1,(ZN t i).2.2.2.2)) fun r4=>Option.bind (bif (!r4.1) then some true else Option.bind (yZ (r4.2.1,r4.2.2.1,r4.2.2.2.1,r4.2.2.2.2.1,r4.2.2.2.2.2.1,r4.2.2.2.2.2.2)) fun r6=>some (!r6)) fun u5=>bif u5 then some (q,t,l,cs,vs,z,false) else some (r4.2.1,r4.2.2.1,r4.2.2.2.1,r4.2.2.2.2.1,r4.2.2.2.2.2.1,r4.2.2.2.2.2.2,true))=some (LM (Tt (q,t,l,cs,vs,z) (WK q t l cs vs z s i))):=by
  intro s hs;have hT:=Nu z h s i;unfold WK at hT ⊢;rw [y0 hs] at hT ⊢;rw [FG z h];change Option.bind (some (if (zg q t (fV (ZN t i))).2.2=true then _ else _)) _=_;cases hr:(zg q t (fV (ZN t i))).2.2 with
  |false=>rfl
  |true=>exact C7 z true hT
 rcases Nt q t l cs vs z hn with rfl|⟨hs,i0,i1,hk⟩|⟨rfl,i0,i1⟩
 ·rw [hp,y0 rfl];rfl
 ·rcases hs with rfl|rfl|rfl
  ·rw [hp,y9 (show ¬ ((1:Int)=0) by decide)];simp only [Ro,Rp,Rq,Rr,Rs,Rt,Ru,Rv,Rx,Ry,Rz,RB,RC,RD,RE,RF,RG,RH,RJ,RM,RN,RP,RQ,RR,RS,y4W,FH,y4X,FI,y4Y,FJ,y4Z,FK,y4_,FL,yg,yi,erd];rw [y0 i0,y0 i1];exact h12 1 (.inl rfl)
  ·rw [hp,y9 (show ¬ ((2:Int)=0) by decide)];simp only [Ro,Rp,Rq,Rr,Rs,Rt,Ru,Rv,Rx,Ry,Rz,RB,RC,RD,RE,RF,RG,RH,RJ,RM,RN,RP,RQ,RR,RS,y4W,FH,y4X,FI,y4Y,FJ,y4Z,FK,y4_,FL,yg,yi,erd];rw [y0 i0,y0 i1];exact h12 2 (.inr rfl)
  ·rw [hp,y9 (show ¬ ((3:Int)=0) by decide)];have hT:=Nu z h 3 i;unfold WK at hT ⊢;rw [y9 (show ¬ ((3:Int)=1∨(3:Int)=2) by decide),y0 (show (3:Int)=3 from rfl)] at hT ⊢;simp only [Ro,Rp,Rq,Rr,Rs,Rt,Ru,Rv,Rx,Ry,Rz,RB,RC,RD,RE,RF,RG,RH,RJ,RM,RN,RP,RQ,RR,RS,y4W,FH,y4X,FI,y4Y,FJ,y4Z,FK,y4_,FL,yg,yi,erd];rw [y0 i0,y0 i1];obtain ⟨⟨a,b,c,d,e⟩,hx⟩: ∃ x,ZN t i=x:=⟨_,rfl⟩
   rw [hx] at hk hT ⊢;have h1:=Qt (a,b,0,0,0) hq;have hone:ue vs b=true∧((YO l b).length:Int)=1:=by unfold JM Nr at hk;rw [y9 (show ¬ (3:Int)=1 by decide),y9 (show ¬ (3:Int)=2 by decide)] at hk;simp only [zzal10,vM] at hk;exact hk.1
   have ymP:JT (q,t,l,cs,vs,z,b)=some ((YO l b).getD 0 0):=by unfold JT nz;simp only [qL l b hl,hZ q t l cs vs z b hv,hone.1,yJ,yi,zzal0];rw [show (((List.length (YO l b):Nat):Int) !=1)=false by rw [hone.2];rfl,yi,y0 (by omega),y0 (by omega)];rfl
   simp only [fV] at hT ⊢;simp only [Ji q t a b 0 0 0 hq.T hq.Q hq.q,ymP,zzal0];rw [Ji _ _ a ((YO l b).getD 0 0) c d e h1.T h1.Q h1.q];simp only [zzal0];cases (zg q t (a,b,0,0,0)).2.2 with
   |false=>rfl
   |true=>simp only [yg,zzal0,jH];exact C7 z _ hT
 ·rw [hp,y9 (show ¬ ((4:Int)=0) by decide)];have hT:=Nu z h 4 i;unfold WK at hT ⊢;rw [y9 (show ¬ ((4:Int)=1∨(4:Int)=2) by decide),y9 (show ¬ (4:Int)=3 by decide)] at hT ⊢;simp only [Ro,Rp,Rq,Rr,Rs,Rt,Ru,Rv,Rx,Ry,Rz,RB,RC,RD,RE,RF,RG,RH,RJ,RM,RN,RP,RQ,RR,RS,y4W,FH,y4X,FI,y4Y,FJ,y4Z,FK,y4_,FL,yg,yi];rw [y0 i0,y0 i1,C4 l _ hl];simp only [zzal0];exact C7 z _ hT
end
def FM (kind a b:Int):Bool:=
 if kind=2 then decide (a=0)&&Yn b 0 1 else if kind=3∨kind=7 then decide (a=0)&&decide (b=0) else if kind=4 then true else decide (b=0)
def Nv (s:ByteArray):Bool:=s.toList==([]:List UInt8)
def Nw (kind:Int) (name tt:ByteArray) (a b:Int):Bool:=
 Yn kind 1 9&&(if kind≥7 then Nv name else jq name)&&(if kind=2 then jq tt else Nv tt)&&isW a&&isW b&&FM kind a b
def uf (seq kind:Int) (name tt:ByteArray) (a b:Int):Bool:=Yn seq 1 60000&&Nw kind name tt a b
theorem uz (kind:Int) (name tt:ByteArray) (a b:Int):jP (kind,name,tt,a,b)=some (FM kind a b):=by unfold jP FM nz;simp only [yl,zK,zzal0,vM];by_cases h2:kind=2<;>by_cases h3:kind=3<;>by_cases h7:kind=7<;>by_cases h4:kind=4<;>by_cases ha:a=0<;>by_cases hb:b=0<;>simp_all
theorem toList_empty:(ByteArray.toList {data:= #[]})=[]:=by unfold ByteArray.toList ByteArray.toList.loop;rfl
theorem cC (kind:Int) (name tt:ByteArray) (a b:Int) (hn:name.size≤maxLen) (ht:tt.size≤maxLen):kq (kind,name,tt,a,b)=some (Nw kind name tt a b):=by unfold kq Nw Nv nz;simp only [yl,kS _ hn,kS _ ht,zK,mQ,uz,zzal0,bi,toList_empty,ym];generalize (name.toList==([]:List UInt8))=n1;generalize (tt.toList==([]:List UInt8))=n2;generalize Yn kind 1 9=n3;generalize FM kind a b=n4;by_cases h7:kind≥7<;>by_cases h2:kind=2<;>simp only [h7,h2,yo,zP,zzal0]<;>cases n1<;>cases n2<;>cases n3<;>cases n4<;>cases jq name<;>cases jq tt<;>cases isW a<;>cases isW b<;>rfl
theorem CK (q kind:Int) (name tt:ByteArray) (a b:Int) (hn:name.size≤maxLen) (ht:tt.size≤maxLen):cv (q,kind,name,tt,a,b)=some (uf q kind name tt a b):=by unfold cv uf nz;simp only [yl,zK,cC _ _ _ _ _ hn ht,zzal0];cases Yn q 1 60000<;>simp
abbrev P7a:Type:=List yf×List y6×List yb×List ya×List yj×Int×Int
theorem LN {A:Type} {o:Option A}:(Option.bind o fun r=>some r)=o:=by cases o<;>rfl
theorem Nx {o:Option P7a}:(Option.bind o fun r=>some (r.1,r.2.1,r.2.2.1,r.2.2.2.1,r.2.2.2.2.1,r.2.2.2.2.2.1,r.2.2.2.2.2.2))=o:=by cases o<;>rfl
theorem yjK {o:Option (List yf×List y6×List yb×List ya×List yj×Int×Bool)}:(Option.bind o fun r=>some (r.1,r.2.1,r.2.2.1,r.2.2.2.1,r.2.2.2.2.1,r.2.2.2.2.2.1,r.2.2.2.2.2.2))=o:=by cases o<;>rfl
theorem yjL {o:Option (Bool×List yf×List y6×List yb×List ya×List yj×Int)}:(Option.bind o fun r=>some (r.1,r.2.1,r.2.2.1,r.2.2.2.1,r.2.2.2.2.1,r.2.2.2.2.2.1,r.2.2.2.2.2.2))=o:=by cases o<;>rfl
theorem ZZ {A:Type} {P:A→Prop} (b:Bool) {x y:A} (hx:b=true→P x) (hy:b=false→P y):P (bif b then x else y):=by cases b<;>first|exact hx rfl|exact hy rfl
structure Tn (q:List yf) (t:List y6) (l:List yb) (cs:List ya) (vs:List yj):Prop where
 ql:q.length≤100
 T:TS t
 ll:l.length≤100
 cl:cs.length=24
 vl:vs.length≤100
 N: ∀ v∈vs,ByteArray.size v.1≤60
 e:q.length=t.length
 p:0<t.length
theorem Tn.sp {q:List yf} {t:List y6} {l:List yb} {cs:List ya} {vs:List yj} (h:Tn q t l cs vs):SP q t l cs vs:=by have hT:=h.T.ok;refine ⟨⟨YI h.ql (by decide),hT.len,hT.sum,YI h.ll (by decide),by rw [h.cl];decide,YI h.vl (by decide)⟩,fun v hv=>YI (h.N v hv) (by decide)⟩
theorem eJ {q:List yf} {t:List y6} {l:List yb} {cs:List ya} {vs:List yj} {z:Int} (h:zc q t l cs vs z=true):Tn q t l cs vs:=by have hF:=Rk h;unfold zc at h;rw [zzal10] at h;have h1:=WU h.1;exact ⟨by have:=hF.ql;have:=hF.tl;omega,mV h.1,by have:=hF.ll;omega,hF.cl,by have:=hF.vl;omega,fun v hv=>by have:=hF.nm v hv;omega,hF.ql,by omega⟩
def dQ (q:List yf) (t:List y6) (l:List yb) (cs:List ya) (vs:List yj) (z:Int) (o:Option P7a):Prop:=
 ∃ q' t' l' cs' vs' z' c,o=some (q',t',l',cs',vs',z',c)∧(zc q' t' l' cs' vs' z'=true∨(q',t',l',cs',vs',z')=(q,t,l,cs,vs,z))
def Yx (vs:List yj) (n:ByteArray):Int:=Zb (fun v:yj=>ByteArray.toList v.1==ByteArray.toList n) vs 0
theorem V0 (vs:List yj) (n:ByteArray):Yx vs n= -1∨(0≤Yx vs n∧Yx vs n<vs.length):=by
 rcases du (fun v:yj=>ByteArray.toList v.1==ByteArray.toList n) w9 vs 0 (yP _) with h|⟨h1,h2,h3⟩
 ·exact .inl h
 ·exact .inr ⟨h1,by simpa [Yx] using h2⟩
section
variable (q:List yf) (t:List y6) (l:List yb) (cs:List ya) (vs:List yj) (z:Int)
theorem jy (n:ByteArray) (hv:vs.length≤1048576):z_ (q,t,l,cs,vs,z,n)=some (Yx vs n):=by
 unfold z_ lV nz;refine (Kr (step:=kv _ _) (fun i=>(n,i,q,t,l,cs,vs,z)) (fun v:yj=>ByteArray.toList v.1==ByteArray.toList n) (fun x=>some x) (some (-1)) w9 vs (by omega) ?_ ?_).trans ?_
 ·intro again i h0 h1;have hw:Go.IntKind.wrap .i64 (i+1)=i+1:=zb (by omega) (by omega);unfold kv nz;simp only [yl,ym,h0,h1,yo,hw];rfl
 ·intro again i hi;unfold kv nz;simp only [yl,ym,y9 hi]
 ·rcases V0 vs n with h|⟨h1,h2⟩<;>unfold Yx at*
  ·rw [h];rfl
  ·rw [y9 (by omega)]
def E9 (n:ByteArray):Int:=if zc q t l cs vs z=true∧jq n=true then 0 else 1
noncomputable def y50 (n:ByteArray):Int:=if zc q t l cs vs z=true∧jq n=true then (if Yx vs n<0 then 2 else 0) else 1
noncomputable def V1 (n:ByteArray) (b:Int):Int:=if zc q t l cs vs z=true∧jq n=true then (if Yx vs n<0 then 2 else if (yC vs (Yx vs n)).2.2.2=true then 5 else if Yn b 0 (Go.IntKind.wrap .i64 ((yC vs (Yx vs n)).2.2.1 - 1))=true then 0 else 4) else 1
variable {q t l cs vs} (h:SP q t l cs vs)
include h
theorem i5 (n:ByteArray) (hn:n.size≤maxLen):wk (q,t,l,cs,vs,z,n)=some (E9 q t l cs vs z n):=by unfold wk E9 nz;simp only [J1 z h,kS n hn,zzal0];cases zc q t l cs vs z<;>cases jq n<;>rfl
theorem ug (n:ByteArray) (hn:n.size≤maxLen):KN (q,t,l,cs,vs,z,n)=some (y50 q t l cs vs z n):=by
 unfold KN y50 nz;simp only [i5 z h n hn,jy q t l cs vs z n h.S.2.2.2.2.2,zzal0];unfold E9;by_cases hc:zc q t l cs vs z=true∧jq n=true
 ·simp only [y0 hc,g9,yg,zzal0];by_cases hv:Yx vs n<0
  ·simp only [y0 hv,yG hv];rfl
  ·simp only [y9 hv,yX hv];rfl
 ·simp only [y9 hc];rfl
theorem fg (n:ByteArray) (hn:n.size≤maxLen) (b:Int):J9 (q,t,l,cs,vs,z,n,b)=some (V1 q t l cs vs z n b):=by
 unfold J9 V1 nz;simp only [ug z h n hn,jy q t l cs vs z n h.S.2.2.2.2.2,zK,zzal0];unfold y50;by_cases hc:zc q t l cs vs z=true∧jq n=true
 ·simp only [y0 hc];by_cases hv:Yx vs n<0
  ·simp only [y0 hv];rfl
  ·have h2:=V0 vs n;simp only [y9 hv,show ((0:Int) !=0)=false from rfl,yi,y0 (show (0:Int)≤Yx vs n by omega),y0 (show Yx vs n<((List.length vs:Nat):Int) by omega)];cases (yC vs (Yx vs n)).2.2.2 with
   |true=>rfl
   |false=>cases Yn b 0 (Go.IntKind.wrap .i64 ((yC vs (Yx vs n)).2.2.1 - 1))<;>rfl
 ·simp only [y9 hc];rfl
theorem copy_eq:yF (q,t,l,cs,vs,z)=some (q,t,l,cs,vs,z):=bR q t l cs vs z h.S
omit h in
theorem dQ.same (c:Int):dQ q t l cs vs z (some (q,t,l,cs,vs,z,c)):=⟨_,_,_,_,_,_,c,rfl,.inr rfl⟩
theorem yeh {q':List yf} {t':List y6} {l':List yb} {cs':List ya} {vs':List yj} {z':Int} (hx:SP q' t' l' cs' vs') (b:Bool):zD (q,t,l,cs,vs,z,q',t',l',cs',vs',z',b)=some (if b=true∧zc q' t' l' cs' vs' z'=true then (q',t',l',cs',vs',z',0) else (q,t,l,cs,vs,z,6)):=by unfold zD nz;simp only [J1 z' hx,copy_eq z h,zzal0];cases b<;>cases hp:zc q' t' l' cs' vs' z'<;>simp
theorem dQ.fin {q':List yf} {t':List y6} {l':List yb} {cs':List ya} {vs':List yj} {z':Int} (hx:SP q' t' l' cs' vs') (b:Bool):dQ q t l cs vs z (zD (q,t,l,cs,vs,z,q',t',l',cs',vs',z',b)):=by
 rw [yeh z h hx b];by_cases hc:b=true∧zc q' t' l' cs' vs' z'=true
 ·rw [y0 hc];exact ⟨_,_,_,_,_,_,_,rfl,.inl hc.2⟩
 ·rw [y9 hc];exact ⟨_,_,_,_,_,_,_,rfl,.inr rfl⟩
end
theorem mY (l:List yb) (id fr:Int) (hl:l.length≤1000): ∃ l' b,Zc (l,id,fr)=some (l',b)∧l'.length≤l.length+1:=by
 unfold Zc iy nz;rw [jx l id (by omega)];simp only [zzal0];refine Yo (step:=vd _) (fun u:vc=>l.length - u.2.2.2.2.1.toNat) (fun u=>u.1=l∧u.2.1=id∧0≤u.2.2.2.2.1∧u.2.2.2.2.1≤l.length∧(u.2.2.2.2.2.length:Int)≤u.2.2.2.2.1+(if u.2.2.2.1=true then 1 else 0)) (fun _ (res:Option (List yb×Bool))=> ∃ (l':List yb) (b:Bool),res=some (l',b)∧l'.length≤l.length+1) ?_ (l,id,fr,decide (Yr l id≥0),0,[]) ⟨rfl,rfl,yP _,by simp,by simp;split<;>omega⟩ (by simp;omega)
 ·rintro again ⟨l1,id1,fr1,d,i,o⟩ ⟨rfl,rfl,h0,h1,ho⟩ hag;simp only at h0 h1 ho hl hag ⊢;unfold vd nz;simp only [yl,ym];by_cases hi:i<(l1.length:Int)
  ·have hw:Go.IntKind.wrap .i64 (i+1)=i+1:=zb (by omega) (by omega);have ho2:o.length≤1001:=by split at ho<;>omega
   simp only [y0 hi,y0 h0,hw,yU,yp,yr];cases d with
   |true=>simp only [yJ,J6,zP,zzal0];rw [y0 (by omega)];exact hag _ ⟨rfl,rfl,by simp only;omega,by simp only;omega,by simp at ho ⊢;omega⟩ (by simp only;omega)
   |false=>
    simp only [Yd,yo,zzal0,ym];split
    ·rw [y0 (by omega),y0 (by omega)];exact hag _ ⟨rfl,rfl,by simp only;omega,by simp only;omega,by simp at ho ⊢;omega⟩ (by simp only;omega)
    ·rw [y0 (by omega)];exact hag _ ⟨rfl,rfl,by simp only;omega,by simp only;omega,by simp at ho ⊢;omega⟩ (by simp only;omega)
  ·have ho2:o.length≤1001:=by split at ho<;>omega
   simp only [y9 hi,yU,yp,yr,jx l1 id1 (by omega),zzal0,qK o (by omega),qK (o++[(id1,fr1)]) (by simp;omega)];cases d with
   |true=>
    have e1: ∀ u:Bool,∃ (l':List yb) (b:Bool),(if u=true then (if (0+l1.length)*16<140737488355328 then some ([]++l1,false) else none) else some (o,true))=some (l',b)∧l'.length≤l1.length+1:=fun u=>by
     rw [y0 (show (0+l1.length)*16<140737488355328 by omega)];cases u
     ·exact ⟨_,_,rfl,by simp at ho;omega⟩
     ·exact ⟨_,_,rfl,by simp⟩
    simp only [yJ,J6,zP];by_cases ha:Yr l1 id1≥0
    ·rw [y0 ha];exact e1 true
    ·rw [y9 ha];exact e1 _
   |false=>
    have e1: ∀ u:Bool,∃ (l':List yb) (b:Bool),(if u=true then (if (0+l1.length)*16<140737488355328 then some ([]++l1,false) else none) else some (o++[(id1,fr1)],true))=some (l',b)∧l'.length≤l1.length+1:=fun u=>by
     rw [y0 (show (0+l1.length)*16<140737488355328 by omega)];cases u
     ·exact ⟨_,_,rfl,by simp at ho ⊢;omega⟩
     ·exact ⟨_,_,rfl,by simp⟩
    simp only [Yd,yo];rw [y0 (by omega)];by_cases ha:Yr l1 id1≥0
    ·rw [y0 ha];exact e1 true
    ·rw [y9 ha];exact e1 _
theorem Ea (vs:List yj) (n:ByteArray) (a s:Int) (f:Bool) (hv:vs.length≤1000) (hN: ∀ v∈vs,ByteArray.size v.1≤60) (hn:n.size≤60): ∃ vs',wl (vs,n,a,s,f)=some vs'∧vs'.length=vs.length+1∧ ∀ v∈vs',ByteArray.size v.1≤60:=by
 unfold wl d7 nz;simp only [jj,yr,yU,yp];rw [y0 (by omega),y0 (by omega),zb (by omega) (by omega)];refine Yo (step:=w_ _) (fun u:wZ=>u.1.toNat) (fun u=>0≤u.1∧u.1≤vs.length∧u.2.1=n∧u.2.2.2.2.2.length=vs.length+1∧ ∀ v∈u.2.2.2.2.2,ByteArray.size v.1≤60) (fun _ (res:Option (List yj))=> ∃ vs':List yj,res=some vs'∧vs'.length=vs.length+1∧ ∀ v∈vs',ByteArray.size v.1≤60) ?_ (((vs.length+(0+1):Nat):Int) - 1,n,a,s,f,vs++[(n,a,s,f)]) ⟨by simp only;omega,by simp only;omega,rfl,by simp,fun v hv=> ?_⟩ (by simp only;omega)
 ·rintro again ⟨k,n1,a1,s1,f1,o⟩ ⟨h0,h1,rfl,ho,hoN⟩ hag;simp only at h0 h1 ho hoN hag ⊢;unfold w_ nz;simp only [yl,ym];by_cases hk:k>0
  ·have hw:Go.IntKind.wrap .i64 (k - 1)=k - 1:=zb (by omega) (by omega);simp only [y0 hk,hw,y0 (show (0:Int)≤k - 1 by omega),y0 (show k - 1<((List.length o:Nat):Int) by omega),y0 h0,y0 (show k<((List.length o:Nat):Int) by omega),zzal0];split
   ·refine hag _ ⟨by simp only;omega,by simp only;omega,rfl,by simp only [Yt];exact ho,fun v hv=> ?_⟩ (by simp only;omega);rcases Vo hv with h|rfl
    ·exact hoN v h
    ·exact hoN _ (zz w9 o (k - 1) (by omega) (by omega))
   ·refine ⟨_,rfl,by rw [Yt];exact ho,fun v hv=> ?_⟩;rcases Vo hv with h|rfl
    ·exact hoN v h
    ·exact hn
  ·simp only [y9 hk,zzal0,J6,zP,y0 h0,y0 (show k<((List.length o:Nat):Int) by omega)];refine ⟨_,rfl,by rw [Yt];exact ho,fun v hv=> ?_⟩;rcases Vo hv with h|rfl
   ·exact hoN v h
   ·exact hn
 ·rcases zB.1 hv with h|h
  ·exact hN v h
  ·rw [aI.1 h];exact hn
theorem mn (cs:List ya) (n:Int) (hc:cs.length≤1048576): ∃ cs' i b,ja (cs,n)=some (cs',i,b)∧cs'.length=cs.length∧(b=true→0≤i∧i<cs.length):=by
 unfold ja ju eg nz;simp only [jj,yr];rw [y0 (by omega)];simp only [zzal0];refine Yo (step:=k9 _ _) (fun u:k8=>cs.length - u.2.2.1.toNat) (fun u=>u.1=cs∧0≤u.2.2.1∧u.2.2.1≤cs.length∧u.2.2.2=cs) (fun _ (res:Option (List ya×Int×Bool))=> ∃ (cs':List ya) (i:Int) (b:Bool),res=some (cs',i,b)∧cs'.length=cs.length∧(b=true→0≤i∧i<cs.length)) ?_ (cs,n,0,cs) ⟨rfl,yP _,by simp,rfl⟩ (by simp;omega)
 ·rintro again ⟨l1,n1,i,o⟩ ⟨e1,h0,h1,e2⟩ hag;simp only at e1 e2 h0 h1 hag ⊢;subst e1;subst e2;unfold k9 nz;simp only [yl,ym,bU o hc,mQ,zzal0];by_cases hi:i<(o.length:Int)
  ·have hw:Go.IntKind.wrap .i64 (i+1)=i+1:=zb (by omega) (by omega);simp only [y0 hi,y0 h0,hw,Yt,zzal0];split
   ·simp only [zzal0];split
    ·split
     ·exact ⟨_,_,_,rfl,by simp,fun _=>⟨h0,hi⟩⟩
     ·exact hag _ ⟨rfl,by simp only;omega,by simp only;omega,rfl⟩ (by simp only;omega)
    ·exact ⟨_,_,_,rfl,rfl,fun h=>by cases h⟩
   ·simp only [zzal0,J6,zP];exact ⟨_,_,_,rfl,rfl,fun h=>by cases h⟩
  ·simp only [y9 hi,zzal0,J6,zP];exact ⟨_,_,_,rfl,rfl,fun h=>by cases h⟩
theorem SP.of {q:List yf} {t:List y6} {l:List yb} {cs:List ya} {vs:List yj} (h:TQ q t) (hl:l.length≤1048576) (hc:cs.length≤1048576) (hv:vs.length≤1048576) (hN: ∀ v∈vs,ByteArray.size v.1≤maxLen):SP q t l cs vs:=
 ⟨⟨h.q,h.T.len,h.T.sum,hl,hc,hv⟩,hN⟩
theorem eL {n:Nat} (h:n≤60):n≤maxLen:=YI h (by decide)
section
variable {q:List yf} {t:List y6} {l:List yb} {cs:List ya} {vs:List yj} (z:Int) (h:SP q t l cs vs)
include h
theorem Tu (n:ByteArray) (s:Int) (hn:n.size≤60):dQ q t l cs vs z (KM (q,t,l,cs,vs,z,n,s)):=by
 unfold KM nz;simp only [i5 z h n (eL hn),copy_eq z h,jy q t l cs vs z n h.S.2.2.2.2.2,zK,zzal0,Nx,LN];refine ZZ (P:=dQ q t l cs vs z) _ (fun _=>dQ.same z _) fun hf=>ZZ (P:=dQ q t l cs vs z) _ (fun _=>dQ.same z _) fun _=>ZZ (P:=dQ q t l cs vs z) _ (fun _=>dQ.same z _) fun _=> ?_;have hp:zc q t l cs vs z=true:=by
  unfold E9 at hf;by_cases hc:zc q t l cs vs z=true∧jq n=true
  ·exact hc.1
  ·rw [y9 hc] at hf;cases hf
 have hT:=eJ hp;obtain ⟨l',b,e1,h1⟩:=mY l z 0 (by have:=hT.ll;omega);obtain ⟨vs',e2,h2,h3⟩:=Ea vs n z s false (by have:=hT.vl;omega) hT.N hn;rw [e1];simp only [zzal0];rw [e2];simp only [zzal0];exact dQ.fin z h (SP.of h.tq (by have:=hT.ll;omega) h.S.2.2.2.2.1 (by have:=hT.vl;omega) fun v hv=>eL (h3 v hv)) b
theorem y51 (n m:ByteArray) (f:Bool) (hn:n.size≤60) (hm:m.size≤60):dQ q t l cs vs z (av (q,t,l,cs,vs,z,n,m,f)):=by
 unfold av nz;simp only [i5 z h n (eL hn),copy_eq z h,jy q t l cs vs z _ h.S.2.2.2.2.2,kS m (eL hm),zzal0,Nx,LN];cases hf:E9 q t l cs vs z n !=0 with
 |true=>simp only [yg,zzal0];exact dQ.same z _
 |false=>
 simp only [yi,zzal0];have hp:zc q t l cs vs z=true:=by
  unfold E9 at hf;by_cases hc:zc q t l cs vs z=true∧jq n=true
  ·exact hc.1
  ·rw [y9 hc] at hf;cases hf
 have hT:=eJ hp;refine ZZ (P:=dQ q t l cs vs z) _ (fun _=>dQ.same z _) fun _=>ZZ (P:=dQ q t l cs vs z) _ (fun _=>dQ.same z _) fun hi=>ZZ (P:=dQ q t l cs vs z) _ (fun _=>dQ.same z _) fun _=> ?_;have hi':0≤Yx vs n∧Yx vs n<((List.length vs:Nat):Int):=by have:=Ev hi;have:=V0 vs n;omega
 obtain ⟨l',b,e1,h1⟩:=mY l z (yC vs (Yx vs n)).2.1 (by have:=hT.ll;omega);obtain ⟨l2,b2,e2,h2⟩:=mY l' (Go.IntKind.wrap .i64 (z+1)) (yC vs (Yx vs n)).2.1 (by have:=hT.ll;omega);obtain ⟨vs',e3,h3,h4⟩:=Ea (vs.set (Int.toNat (Yx vs n)) ((yC vs (Yx vs n)).1,z,(yC vs (Yx vs n)).2.2)) m (Go.IntKind.wrap .i64 (z+1)) (yC vs (Yx vs n)).2.2.1 f (by rw [Yt];have:=hT.vl;omega) (fun v hv=>by
  rcases Vo hv with hv|rfl
  ·exact hT.N v hv
  ·exact hT.N (yC vs (Yx vs n)) (zz w9 vs _ hi'.1 hi'.2)) hm
 simp only [y0 hi'.1,y0 hi'.2];rw [e1];simp only [zzal0];rw [e2];simp only [zzal0];rw [e3];simp only [zzal0];rw [Yt] at h3;have hS:SP q t l2 cs vs':=SP.of h.tq (by have:=hT.ll;omega) h.S.2.2.2.2.1 (by have:=hT.vl;omega) fun v hv=>eL (h4 v hv);cases b<;>simp only [yg,yi,zzal0]<;>exact dQ.fin z h hS _
theorem RT (n:ByteArray) (hn:n.size≤60):dQ q t l cs vs z (wQ (q,t,l,cs,vs,z,n)):=by
 unfold wQ nz;simp only [ug z h n (eL hn),copy_eq z h,jy q t l cs vs z _ h.S.2.2.2.2.2,zzal0,Nx,LN];refine ZZ (P:=dQ q t l cs vs z) _ (fun _=>dQ.same z _) fun hf=> ?_;have hi:0≤Yx vs n∧Yx vs n<((List.length vs:Nat):Int):=by
  unfold y50 at hf;have:=V0 vs n;by_cases hc:zc q t l cs vs z=true∧jq n=true
  ·rw [y0 hc] at hf;by_cases hv:Yx vs n<0
   ·rw [y0 hv] at hf;cases hf
   ·omega
  ·rw [y9 hc] at hf;cases hf
 have hv:=h.S.2.2.2.2.2;have hw:Go.IntKind.wrap .i64 (Yx vs n+1)=Yx vs n+1:=zb (by omega) (by omega);simp only [hw];rw [y0 (yP _),y0 hi.1,y0 (by omega),y0 (by simp only [yr,wU,Za];omega),y0 (by omega),y0 (by omega),y0 (yP _),y0 (by simp only [yU,yr,wU,Za];omega)];refine dQ.fin z h (SP.of h.tq h.S.2.2.2.1 h.S.2.2.2.2.1 (by simp only [yU,yr,wU,Za];omega) fun v hv=> ?_) true;simp only [jj,zB] at hv;rcases hv with hv|hv
 ·exact h.N v (lr (xO hv))
 ·exact h.N v (lr (xO hv))
theorem Ny (a b c d e:Int): ∃ r q' t' cs',YG (q,t,l,cs,vs,z,a,b,c,d,e)=some (r,q',t',l,cs',vs,z)∧SP q' t' l cs' vs:=by
 have hq:=h.tq;unfold YG nz;simp only [qO q t a b hq.T hq.q,Ji q t a b c d e hq.T hq.Q hq.q,zzal0];cases (zg q t (a,b,c,d,e)).2.2 with
 |false=>exact ⟨_,_,_,_,rfl,h⟩
 |true=>
  unfold VH nz;simp only [yJ,yi,Kw cs _ h.S.2.2.2.2.1];have hT:=Qt (a,b,c,d,e) hq;have key: ∀ u:Bool,∃ r q' t' cs',(Option.bind (bif u then Option.bind (some (rF cs (Kv q t a b).2.2.2.1)) fun r2=>some ((zg q t (a,b,c,d,e)).1,(zg q t (a,b,c,d,e)).2.1,l,r2,vs,z) else some ((zg q t (a,b,c,d,e)).1,(zg q t (a,b,c,d,e)).2.1,l,cs,vs,z)) fun r3=>some (true,r3.1,r3.2.1,r3.2.2.1,r3.2.2.2.1,r3.2.2.2.2.1,r3.2.2.2.2.2))=some (r,q',t',l,cs',vs,z)∧SP q' t' l cs' vs:=fun u=>by
   cases u
   ·exact ⟨_,_,_,_,rfl,hT.sp h h.S.2.2.2.1 h.S.2.2.2.2.1⟩
   ·exact ⟨_,_,_,_,rfl,hT.sp h h.S.2.2.2.1 (by rw [mX];exact h.S.2.2.2.2.1)⟩
  cases (Kv q t a b).2.2.2.2.2
  ·exact key false
  ·exact key ((Kv q t a b).2.2.1==1)
theorem y2n (n:ByteArray) (b w:Int) (hn:n.size≤60):dQ q t l cs vs z (VI (q,t,l,cs,vs,z,n,b,w)):=by
 obtain ⟨cs',i,u,e1,h1,h2⟩:=mn cs w h.S.2.2.2.2.1;have hS:SP q t l cs' vs:=SP.of h.tq h.S.2.2.2.1 (by rw [h1];exact h.S.2.2.2.2.1) h.S.2.2.2.2.2 h.N;have main:V1 q t l cs vs z n b=0→dQ q t l cs vs z (bif u then if (0:Int)≤Yx vs n then if Yx vs n<((List.length vs:Nat):Int) then if (0:Int)≤i then if i<((List.length cs':Nat):Int) then Option.bind (YG (q,t,l,cs',vs,z,b,(yC vs (Yx vs n)).2.1,(1:Int),i,(yD cs' i).1)) fun r7=>zD (q,t,l,cs,vs,z,r7.2.1,r7.2.2.1,r7.2.2.2.1,r7.2.2.2.2.1,r7.2.2.2.2.2.1,r7.2.2.2.2.2.2,r7.1) else none else none else none else none else zD (q,t,l,cs,vs,z,q,t,l,cs',vs,z,false)):=by
  intro hb;have hi:0≤Yx vs n∧Yx vs n<((List.length vs:Nat):Int):=by
   unfold V1 at hb;have:=V0 vs n;by_cases hc:zc q t l cs vs z=true∧jq n=true
   ·rw [y0 hc] at hb;by_cases hv:Yx vs n<0
    ·rw [y0 hv] at hb;cases hb
    ·omega
   ·rw [y9 hc] at hb;cases hb
  cases u with
  |false=>exact dQ.fin z h hS false
  |true=>have h3:=h2 rfl;obtain ⟨r,q',t',cs2,e2,h4⟩:=Ny z hS b (yC vs (Yx vs n)).2.1 1 i (yD cs' i).1;simp only [yg,y0 hi.1,y0 hi.2,y0 h3.1,y0 (show i<((List.length cs':Nat):Int) by rw [h1];exact h3.2),e2,zzal0];exact dQ.fin z h h4 r
 unfold VI nz;simp only [fg z h n (eL hn),copy_eq z h,jy q t l cs vs z _ h.S.2.2.2.2.2,mQ,e1,zzal0,Nx,LN];cases hb:V1 q t l cs vs z n b==0 with
 |false=>
  have hne:(V1 q t l cs vs z n b !=0)=true:=by rw [bne,hb];rfl
  simp only [yi,zzal0,hne,yg];exact dQ.same z _
 |true=>
  have h0:V1 q t l cs vs z n b=0:=by simpa using hb
  cases hw:isW w with
  |false=>simp only [yg,zzal0,Yd,show ((4:Int) !=0)=true from rfl];exact dQ.same z _
  |true=>
   have hne:(V1 q t l cs vs z n b !=0)=false:=by rw [bne,hb];rfl
   simp only [yg,zzal0,yJ,yi,hne];exact main h0
theorem i6 (i b:Int) (h0:0≤i) (h1:i<(vs.length:Int)): ∃ r q' t' cs',ZO (q,t,l,cs,vs,z,i,b)=some (r,q',t',l,cs',vs,z)∧SP q' t' l cs' vs:=by
 have hq:=h.tq;unfold ZO nz;simp only [y0 h0,y0 h1,nJ q t l _ _ hq.T h.S.2.2.2.1,qO q t _ _ hq.T hq.q,zzal0,yjL,LN];have key: ∀ u:Bool,∃ r q' t' cs',(bif u then YG (q,t,l,cs,vs,z,b,(yC vs i).2.1,(2:Int),(0:Int),(0:Int)) else bif (!(Kv q t b (yC vs i).2.1).2.2.2.2.2) then some (true,q,t,l,cs,vs,z) else YG (q,t,l,cs,vs,z,b,(yC vs i).2.1,(0:Int),(0:Int),(0:Int)))=some (r,q',t',l,cs',vs,z)∧SP q' t' l cs' vs:=fun u=>by
  cases u
  ·cases (Kv q t b (yC vs i).2.1).2.2.2.2.2
   ·exact ⟨_,_,_,_,rfl,h⟩
   ·exact Ny z h _ _ _ _ _
  ·exact Ny z h _ _ _ _ _
 cases (ans (FD t l b (yC vs i).2.1)).2.2.2.2.2
 ·exact key false
 ·exact key _
theorem Nz (n:ByteArray) (b:Int) (hn:n.size≤60):dQ q t l cs vs z (kz (q,t,l,cs,vs,z,n,b)):=by
 unfold kz nz;simp only [fg z h n (eL hn),copy_eq z h,jy q t l cs vs z _ h.S.2.2.2.2.2,zzal0,Nx,LN];refine ZZ (P:=dQ q t l cs vs z) _ (fun _=>dQ.same z _) fun hb=> ?_;have hi:0≤Yx vs n∧Yx vs n<((List.length vs:Nat):Int):=by
  unfold V1 at hb;have:=V0 vs n;by_cases hc:zc q t l cs vs z=true∧jq n=true
  ·rw [y0 hc] at hb;by_cases hv:Yx vs n<0
   ·rw [y0 hv] at hb;cases hb
   ·omega
  ·rw [y9 hc] at hb;cases hb
 obtain ⟨r,q',t',cs',e1,h1⟩:=i6 z h (Yx vs n) b hi.1 hi.2;rw [e1];exact dQ.fin z h h1 r
omit h in
theorem y2o {n:ByteArray} {b:Int} (hb:V1 q t l cs vs z n b=0):(0≤Yx vs n∧Yx vs n<((List.length vs:Nat):Int))∧zc q t l cs vs z=true:=by
 unfold V1 at hb;have:=V0 vs n;by_cases hc:zc q t l cs vs z=true∧jq n=true
 ·rw [y0 hc] at hb;by_cases hv:Yx vs n<0
  ·rw [y0 hv] at hb;cases hb
  ·exact ⟨by omega,hc.1⟩
 ·rw [y9 hc] at hb;cases hb
theorem Tv (n:ByteArray) (s:Int) (hn:n.size≤60):dQ q t l cs vs z (KQ (q,t,l,cs,vs,z,n,s)):=by
 have fin: ∀ (i:Int) (s:Int) (ok:Bool) (q':List yf) (t':List y6) (cs':List ya),0≤i→i<(vs.length:Int)→SP q' t' l cs' vs→dQ q t l cs vs z (if (0:Int)≤i then if i<((List.length vs:Nat):Int) then zD (q,t,l,cs,vs,z,q',t',l,cs',List.set vs (Int.toNat i) ((yC vs i).1,(yC vs i).2.1,s,(yC vs i).2.2.2),z,ok) else none else none):=by
  intro i s ok q' t' cs' h0 h1 hS;rw [y0 h0,y0 h1];refine dQ.fin z h ⟨⟨hS.S.1,hS.S.2.1,hS.S.2.2.1,hS.S.2.2.2.1,hS.S.2.2.2.2.1,by rw [Yt];exact h.S.2.2.2.2.2⟩,fun v hv=> ?_⟩ ok;rcases Vo hv with hv|rfl
  ·exact h.N v hv
  ·exact h.N (yC vs i) (zz w9 vs i h0 h1)
 have loop: ∀ (k0:Int×Int×Bool×List yf×List y6×List yb×List ya×List yj×Int×Int×Int×List yf×List y6×List yb×List ya×List yj→Option P7a) (k1:Int×Int×Bool×List yf×List y6×List yb×List ya×List yj×Int×Int×List yf×List y6×List yb×Int×List ya×List yj→Option P7a) (s i b:Int) (ok:Bool) (y:Int),0≤i→i<(vs.length:Int)→b≤1000→ -1000≤b→0≤s→
   (∀ ok q' t' cs',SP q' t' l cs' vs→dQ q t l cs vs z (k0 (s,i,ok,q,t,l,cs,vs,z,y,z,q',t',l,cs',vs)))→
   (∀ ok q' t' cs',SP q' t' l cs' vs→dQ q t l cs vs z (k1 (s,i,ok,q,t,l,cs,vs,z,y,q',t',l,z,cs',vs)))→
   dQ q t l cs vs z (K2 k0 k1 (Sum.inl (s,i,ok,b,q,t,l,cs,vs,z,y,z,q,t,l,cs,vs))):=by
  intro k0 k1 s i b ok y h0 h1 hb hb0 hs f0 f1;unfold K2;refine Yo (step:=wo k0 k1) (fun u:K1=>match u with| .inl u=>(u.2.2.2.1+1).toNat+1| .inr u=>(u.2.2.2.1+1).toNat)
   (fun u=>match u with
    | .inl u=> ∃ b ok q' t' cs',b≤1000∧ -1000≤b∧SP q' t' l cs' vs∧u=(s,i,ok,b,q,t,l,cs,vs,z,y,z,q',t',l,cs',vs)
    | .inr u=> ∃ b ok q' t' cs',b≤1000∧ -1001≤b∧SP q' t' l cs' vs∧u=(s,i,ok,b,q,t,l,cs,vs,z,y,q',t',l,z,cs',vs))
   (fun _ res=>dQ q t l cs vs z res) ?_ _ ⟨b,ok,q,t,cs,hb,hb0,h,rfl⟩ (by simp only;omega)
  intro again u hu hag;cases u with
  |inl u=>
   obtain ⟨b,ok,q',t',cs',k1',k2',hS,rfl⟩:=hu;unfold wo nz;simp only at hag ⊢;by_cases hbs:b≥s
   ·cases ok with
    |false=>simp only [yG hbs,yg,zzal0,yi];exact f0 _ _ _ _ hS
    |true=>obtain ⟨r,q2,t2,cs2,e1,h2⟩:=i6 z hS i b h0 h1;have hw:Go.IntKind.wrap .i64 (b - 1)=b - 1:=zb (by omega) (by omega);simp only [yG hbs,yg,zzal0,e1,hw];exact hag _ ⟨b - 1,r,q2,t2,cs2,by omega,by omega,h2,rfl⟩ (by simp only;omega)
   ·simp only [yX hbs,yi,zzal0];exact f0 _ _ _ _ hS
  |inr u=>
   obtain ⟨b,ok,q',t',cs',k1',k2',hS,rfl⟩:=hu;unfold wo nz;simp only at hag ⊢;by_cases hbs:b≥s
   ·cases ok with
    |false=>simp only [yG hbs,yg,zzal0,yi];exact f1 _ _ _ _ hS
    |true=>obtain ⟨r,q2,t2,cs2,e1,h2⟩:=i6 z hS i b h0 h1;have hw:Go.IntKind.wrap .i64 (b - 1)=b - 1:=zb (by omega) (by omega);simp only [yG hbs,yg,zzal0,e1,hw];exact hag _ ⟨b - 1,r,q2,t2,cs2,by omega,by omega,h2,rfl⟩ (by simp only;omega)
   ·simp only [yX hbs,yi,zzal0];exact f1 _ _ _ _ hS
 unfold KQ nz;simp only [fg z h n (eL hn),copy_eq z h,jy q t l cs vs z _ h.S.2.2.2.2.2,zK,zzal0,Nx,LN];cases hb:V1 q t l cs vs z n 0==0 with
 |false=>
  have hne:(V1 q t l cs vs z n 0 !=0)=true:=by rw [bne,hb];rfl
  simp only [yi,zzal0,hne,yg];exact dQ.same z _
 |true=>
  have h0:V1 q t l cs vs z n 0=0:=by simpa using hb
  cases hs:Yn s 1 12 with
  |false=>simp only [yg,zzal0,Yd,show ((4:Int) !=0)=true from rfl];exact dQ.same z _
  |true=>
   have hne:(V1 q t l cs vs z n 0 !=0)=false:=by rw [bne,hb];rfl
   simp only [yg,zzal0,yJ,yi,hne];obtain ⟨hi,hp⟩:=y2o z h0;rw [y0 hi.1,y0 hi.2];have hs':=zi.1 hs;have hr:1≤(yC vs (Yx vs n)).2.2.1∧(yC vs (Yx vs n)).2.2.1≤12:=by unfold zc at hp;simp only [zzal10] at hp;have hv:=hp.2.2.2.2.2.1;unfold qM at hv;simp only [zzal10,zzal45] at hv;obtain ⟨j,hj⟩:=mR _ vs 0 hv.1 _ (zz w9 vs _ hi.1 hi.2);unfold Fx at hj;simp only [WW,eR,zi] at hj;exact hj.2.1
   have hw:Go.IntKind.wrap .i64 ((yC vs (Yx vs n)).2.2.1 - 1)=(yC vs (Yx vs n)).2.2.1 - 1:=zb (by omega) (by omega);rw [hw];exact loop _ _ s (Yx vs n) _ true 0 hi.1 hi.2 (by omega) (by omega) (by omega) (fun ok q' t' cs' hS=>fin _ s ok q' t' cs' hi.1 hi.2 hS) (fun ok q' t' cs' hS=>fin _ s ok q' t' cs' hi.1 hi.2 hS)
end
def Kx {A:Type} (q:List yf) (t:List y6) (l:List yb) (cs:List ya) (vs:List yj) (z:Int) (o:Option (List yf×List y6×List yb×List ya×List yj×Int×A)):Prop:=
 ∃ q' t' l' cs' vs' z' c,o=some (q',t',l',cs',vs',z',c)∧(Tn q' t' l' cs' vs'∨(q',t',l',cs',vs',z')=(q,t,l,cs,vs,z))
section
variable {q:List yf} {t:List y6} {l:List yb} {cs:List ya} {vs:List yj} {z:Int}
theorem dQ.a {o:Option P7a} (h:dQ q t l cs vs z o):Kx q t l cs vs z o:=by obtain ⟨q',t',l',cs',vs',z',c,e,hc⟩:=h;exact ⟨q',t',l',cs',vs',z',c,e,hc.imp eJ id⟩
theorem Kx.same {A:Type} (c:A):Kx q t l cs vs z (some (q,t,l,cs,vs,z,c)):=⟨_,_,_,_,_,_,c,rfl,.inr rfl⟩
theorem Kx.tn {A:Type} (c:A) {q':List yf} {t':List y6} {l':List yb} {cs':List ya} {vs':List yj} {z':Int} (h:Tn q' t' l' cs' vs'):Kx q t l cs vs z (some (q',t',l',cs',vs',z',c)):=⟨_,_,_,_,_,_,c,rfl,.inl h⟩
theorem Tn.pack (h:Tn q t l cs vs) {i:Int} (h0:0≤i) (h1:i<(t.length:Int)):Tn q (t.set i.toNat (YF (zm (yt t i)))) l cs vs:=by
 refine ⟨h.ql,⟨by rw [Yt];exact h.T.len,fun n hn=> ?_⟩,h.ll,h.cl,h.vl,h.N,by rw [Yt];exact h.e,by rw [Yt];exact h.p⟩;rcases Vo hn with hn|rfl
 ·exact h.T.node n hn
 ·exact dG (nk h.T h0 h1).keys
end
section
variable {q:List yf} {t:List y6} {l:List yb} {cs:List ya} {vs:List yj} (z:Int) (h:SP q t l cs vs)
include h
theorem LO (i:Int):Kx q t l cs vs z (Jb (q,t,l,cs,vs,z,i)):=by
 unfold Jb nz;simp only [copy_eq z h,J1 z h,zK,zzal0];cases hp:zc q t l cs vs z with
 |false=>simp only [Yd,yg,zzal0];exact Kx.same _
 |true=>
  have hT:=eJ hp;simp only [yJ,yi,zzal0];cases hi:Yn i 0 (Go.IntKind.wrap .i64 (((List.length t:Nat):Int) - (1:Int))) with
  |false=>simp only [Yd,yg];exact Kx.same _
  |true=>have hl:=hT.T.len;have hw:Go.IntKind.wrap .i64 (((List.length t:Nat):Int) - (1:Int))=((List.length t:Nat):Int) - 1:=zb (by omega) (by omega);have hi2:=hi;rw [hw,zi] at hi;simp only [yJ,yi];unfold bo bm nz;have hk:=nk hT.T hi.1 (show i<(t.length:Int) by omega);simp only [dB q t h.S.1 h.S.2.1 (fun n hn=>vY h.S.2.2.1 hn),zK,hi2,zzal0,yg];simp only [y0 hi.1,y0 (show i<((List.length t:Nat):Int) by omega),aB hT.T hi.1 (show i<(t.length:Int) by omega),WJ (zm (yt t i)) (YI hk.keys (by decide)),zzal0];exact Kx.tn _ (hT.pack hi.1 (by omega))
theorem y2p (i:Int): ∃ a b c d e,QH (q,t,l,cs,vs,z,i)=some (a,b,c,d,e):=by
 have hq:=h.tq;have hk:=DV t;have hs3:=h.S.2.2.1;unfold QH iH nz;simp only [Zw q t (by have:=h.S.2.1;omega) (fun n hn=>by have:=(vY h.S.2.2.1 hn).1;omega) h.S.2.2.1,zzal0];refine Yo (step:=vp _ _) (fun u:vo=>(zV t).length - u.2.1.toNat) (fun u=>u.2.2.2.2.2.2.2=zV t∧0≤u.2.1∧u.2.1≤(zV t).length) (fun _ (res:Option (Int×Int×Int×Int×Int))=> ∃ a b c d e:Int,res=some (a,b,c,d,e)) ?_ (i,0,0,0,0,0,0,zV t) ⟨rfl,yP _,by simp⟩ (by simp only;omega);rintro again ⟨i1,j,a,b,c,d,e,ks⟩ ⟨e1,h0,h1⟩ hag;simp only at e1 h0 h1 hag ⊢;subst e1;unfold vp nz;simp only [yl,ym];by_cases hj:j<((zV t).length:Int)
 ·have hw:Go.IntKind.wrap .i64 (j+1)=j+1:=zb (by omega) (by omega);simp only [y0 hj,y0 h0,hw,zzal0];split
  ·simp only [zzal0];split
   ·exact ⟨_,_,_,_,_,rfl⟩
   ·exact hag _ ⟨rfl,by simp only;omega,by simp only;omega⟩ (by simp only;omega)
  ·simp only [zzal0,J6,zP];exact hag _ ⟨rfl,by simp only;omega,by simp only;omega⟩ (by simp only;omega)
 ·simp only [y9 hj];exact ⟨_,_,_,_,_,rfl⟩
theorem LP (i:Int):Kx q t l cs vs z (Jc (q,t,l,cs,vs,z,i)):=by
 unfold Jc nz;simp only [copy_eq z h,J1 z h,zK,zzal0];cases hp:zc q t l cs vs z with
 |false=>simp only [Yd,yg,zzal0];exact Kx.same _
 |true=>
  have hT:=eJ hp;have hcl:=hT.cl;simp only [yJ,yi,zzal0];have hw:Go.IntKind.wrap .i64 (((List.length cs:Nat):Int) - (1:Int))=((List.length cs:Nat):Int) - 1:=zb (by omega) (by omega);rw [hw];cases hi:Yn i 0 (((List.length cs:Nat):Int) - 1) with
  |false=>simp only [Yd,yg,zzal0];exact Kx.same _
  |true=>
   rw [zi] at hi;simp only [yJ,yi,y0 hi.1,y0 (show i<((List.length cs:Nat):Int) by omega),zzal0];obtain ⟨a,b,c,d,e,e1⟩:=y2p z h i;obtain ⟨cs',j,u,e2,h1,h2⟩:=mn cs (yD cs i).2.2 h.S.2.2.2.2.1;have hq:=h.tq;have hT2:=Qt (a,b,c,j,(yD cs' j).1) hq;have hc':cs'.length≤1048576:=by rw [h1];exact h.S.2.2.2.2.1
   cases (yD cs i).2.1 with
   |false=>simp only [Yd,yg];exact Kx.same _
   |true=>
    simp only [yJ,yi,e1,e2,zzal0];cases u with
    |false=>simp only [Yd,yg,zzal0];exact Kx.same _
    |true=>
     have h3:=h2 rfl;simp only [yJ,yi,zzal0];cases decide (j>i) with
     |true=>simp only [yg];exact Kx.same _
     |false=>
      have hx:SP (zg q t (a,b,c,j,(yD cs' j).1)).1 (zg q t (a,b,c,j,(yD cs' j).1)).2.1 l (rF cs' i) vs:=hT2.sp h h.S.2.2.2.1 (by rw [mX];exact hc');simp only [yi,y0 h3.1,y0 (show j<((List.length cs':Nat):Int) by rw [h1];exact h3.2),Ji q t a b c j (yD cs' j).1 hq.T hq.Q hq.q,Kw cs' i hc',J1 z hx,zzal0];cases (zg q t (a,b,c,j,(yD cs' j).1)).2.2 with
      |false=>simp only [Yd,yg,zzal0];exact Kx.same _
      |true=>
       simp only [yJ,yi,zzal0];cases hp2:zc (zg q t (a,b,c,j,(yD cs' j).1)).1 (zg q t (a,b,c,j,(yD cs' j).1)).2.1 l (rF cs' i) vs z with
       |false=>simp only [Yd,yg];exact Kx.same _
       |true=>simp only [yJ,yi];exact Kx.tn _ (eJ hp2)
theorem FN:Kx q t l cs vs z (Zs (q,t,l,cs,vs,z)):=by
 rw [rI z h];have key:y2m (tc q t l cs vs z).1=true∨(tc q t l cs vs z).1=(q,t,l,cs,vs,z):=by
  unfold tc;split
  ·split
   ·exact .inr rfl
   ·unfold Tt;split
    ·rename_i hh;rw [zzal10] at hh;exact .inl hh.2
    ·exact .inr rfl
  ·exact .inr rfl
 unfold LM;rcases key with hk|hk
 ·exact Kx.tn _ (eJ hk)
 ·rw [hk];exact Kx.same _
theorem LQ (k:Int) (n m:ByteArray) (a b:Int) (hn:n.size≤60) (hm:m.size≤60):Kx q t l cs vs z (W0 (q,t,l,cs,vs,z,k,n,m,a,b)):=by
 unfold W0 df nz;simp only [cC k n m a b (eL hn) (eL hm),J1 z h,copy_eq z h,zzal0,Nx,yjK,LN];have key: ∀ u:Bool,Kx q t l cs vs z (bif u then some (q,t,l,cs,vs,z,(1:Int)) else bif (k==(1:Int)) then KM (q,t,l,cs,vs,z,n,a) else bif (k==(2:Int)) then av (q,t,l,cs,vs,z,n,m,(b==(1:Int))) else bif (k==(3:Int)) then wQ (q,t,l,cs,vs,z,n) else bif (k==(4:Int)) then VI (q,t,l,cs,vs,z,n,a,b) else bif (k==(5:Int)) then kz (q,t,l,cs,vs,z,n,a) else bif (k==(6:Int)) then KQ (q,t,l,cs,vs,z,n,a) else
   Option.bind (bif (k==(7:Int)) then Zs (q,t,l,cs,vs,z) else bif (k==(8:Int)) then Jb (q,t,l,cs,vs,z,a) else Jc (q,t,l,cs,vs,z,a)) fun Nl=>bif (!Nl.2.2.2.2.2.2) then some (Nl.1,Nl.2.1,Nl.2.2.1,Nl.2.2.2.1,Nl.2.2.2.2.1,Nl.2.2.2.2.2.1,(2:Int)) else some (Nl.1,Nl.2.1,Nl.2.2.1,Nl.2.2.2.1,Nl.2.2.2.2.1,Nl.2.2.2.2.2.1,(0:Int))):=by
  intro u;refine ZZ (P:=Kx q t l cs vs z) _ (fun _=>Kx.same _) fun _=>ZZ (P:=Kx q t l cs vs z) _ (fun _=>(Tu z h n a hn).a) fun _=>ZZ (P:=Kx q t l cs vs z) _ (fun _=>(y51 z h n m _ hn hm).a) fun _=>ZZ (P:=Kx q t l cs vs z) _ (fun _=>(RT z h n hn).a) fun _=>ZZ (P:=Kx q t l cs vs z) _ (fun _=>(y2n z h n a b hn).a) fun _=>ZZ (P:=Kx q t l cs vs z) _ (fun _=>(Nz z h n a hn).a) fun _=>ZZ (P:=Kx q t l cs vs z) _ (fun _=>(Tv z h n a hn).a) fun _=> ?_;have hs:Kx q t l cs vs z (bif (k==(7:Int)) then Zs (q,t,l,cs,vs,z) else bif (k==(8:Int)) then Jb (q,t,l,cs,vs,z,a) else Jc (q,t,l,cs,vs,z,a)):=
   ZZ (P:=Kx q t l cs vs z) _ (fun _=>FN z h) fun _=>ZZ (P:=Kx q t l cs vs z) _ (fun _=>LO z h a) fun _=>LP z h a
  obtain ⟨q',t',l',cs',vs',z',c,e,hc⟩:=hs;rw [e];cases c
  ·exact ⟨_,_,_,_,_,_,_,rfl,hc⟩
  ·exact ⟨_,_,_,_,_,_,_,rfl,hc⟩
 cases Nw k n m a b
 ·exact key true
 ·exact key _
end
def noB:ByteArray:=⟨#[]⟩
def bY (l:List Int) (i:Int):ByteArray×Int×Bool:=if 0≤i∧i+2≤l.length∧w2 l i≤60∧i+2+w2 l i≤l.length then (textOf ((l.take (i+2+w2 l i).toNat).drop (i+2).toNat),i+2+w2 l i,true) else (noB,0,false)
theorem Tw (l:List Int) (i:Int) (hb:isBytes l):(bY l i).1.size≤60:=by
 unfold bY;split
 ·rename_i h;have:=fT hb i;show (textOf _).data.size≤60;unfold textOf;simp;omega
 ·show noB.data.size≤60;simp [noB]
theorem Tx (l:List Int) (i:Int) (hb:isBytes l):0≤(bY l i).2.1∧(bY l i).2.1≤l.length:=by
 unfold bY;split
 ·rename_i h;have:=fT hb i;simp only;omega
 ·simp only;omega
theorem Eb {F:List Int×Int→Option (ByteArray×Int×Bool)} (l:List Int) (i:Int) (hb:isBytes l) (hl:l.length≤1099511627776) (h0: -1099511627776≤i) (h1:i≤4398046511104)
  (hF:F (l,i)=Option.bind (some (rA l i)) fun r1=>Option.bind (bif (!r1.2.2) then some true else some (decide (r1.1>(60:Int)))) fun u2=>Option.bind (bif u2 then some true else some (decide (r1.1>(Go.IntKind.wrap .i64 (((List.length l:Nat):Int) - r1.2.1))))) fun u3=>bif u3 then some ({data:= #[]},(0:Int),false) else if (0:Int)≤r1.2.1 then if r1.2.1≤(Go.IntKind.wrap .i64 (r1.2.1+r1.1)) then if (Go.IntKind.wrap .i64 (r1.2.1+r1.1))≤((List.length l:Nat):Int) then some ((textOf (List.drop (Int.toNat r1.2.1) (List.take (Int.toNat (Go.IntKind.wrap .i64 (r1.2.1+r1.1))) l))),(Go.IntKind.wrap .i64 (r1.2.1+r1.1)),true) else none else none else none):
  F (l,i)=some (bY l i):=by
 rw [hF,zzal0];have hr:=fT hb i;by_cases h:0≤i∧i+2≤l.length
 ·have eW:rA l i=(w2 l i,i+2,true):=y0 h;rw [eW];simp only [yl,ym];rw [zb (n:=(l.length:Int) - (i+2)) (by omega) (by omega),zb (n:=i+2+w2 l i) (by omega) (by omega),y9 (by simp),zzal0];by_cases h60:w2 l i≤60
  ·rw [y9 (by simp;omega),zzal0];by_cases hf:i+2+w2 l i≤l.length
   ·have eT:bY l i=(textOf ((l.take (i+2+w2 l i).toNat).drop (i+2).toNat),i+2+w2 l i,true):=y0 ⟨h.1,h.2,h60,hf⟩;rw [y9 (by simp;omega),y0 (by omega),y0 (by omega),y0 hf,eT]
   ·have eT:bY l i=(noB,0,false):=y9 (by rintro ⟨_,_,_,h4⟩;exact hf h4);rw [y0 (by simp;omega),eT];rfl
  ·have eT:bY l i=(noB,0,false):=y9 (by rintro ⟨_,_,h4,_⟩;exact h60 h4);rw [y0 (by simp;omega),zzal0,eT];rfl
 ·have eW:rA l i=(0,0,false):=y9 h;have eT:bY l i=(noB,0,false):=y9 (by rintro ⟨h2,h3,_⟩;exact h ⟨h2,h3⟩);rw [eW,eT];rfl
theorem uA (l:List Int) (i:Int) (hb:isBytes l) (hl:l.length≤1099511627776) (h0: -1099511627776≤i) (h1:i≤4398046511104):kM (l,i)=some (bY l i):=
 Eb (F:=kM) l i hb hl h0 h1 (by unfold kM nz;rw [gW l i hb hl h0 h1])
theorem uB (l:List Int) (i:Int) (hb:isBytes l) (hl:l.length≤1099511627776) (h0: -1099511627776≤i) (h1:i≤4398046511104):kJ (l,i)=some (bY l i):=
 Eb (F:=kJ) l i hb hl h0 h1 (by unfold kJ nz;rw [rB l i hb hl h0 h1])
theorem RU (l:List Int) (i:Int) (bad:Bool) (hb:isBytes l) (hl:l.length≤1099511627776) (h0:0≤i) (h1:i≤2199023255552):YD (l,i,bad)=some (if bad=false∧(bY l i).2.2=true then ((bY l i).1,l,(bY l i).2.1,false) else (noB,l,i,true)):=by
 unfold YD nz;simp only [uB l i hb hl (by omega) (by omega),zzal0,yl];cases bad with
 |true=>simp;rfl
 |false=>
  cases h:(bY l i).2.2 with
  |true=>simp [h]
  |false=>simp [h];rfl
def oT1 (l:List Int) (i:Int):=bY l (i+1)
def oT2 (l:List Int) (i:Int):=bY l (oT1 l i).2.1
def oW1 (l:List Int) (i:Int):=rA l (oT2 l i).2.1
def oW2 (l:List Int) (i:Int):=rA l (oW1 l i).2.1
def opv (l:List Int) (i:Int):Int×ByteArray×ByteArray×Int×Int×Int:=(wN l i,(oT1 l i).1,(oT2 l i).1,(oW1 l i).1,(oW2 l i).1,(oW2 l i).2.1)
def opk (l:List Int) (i:Int):Bool:=
 decide (i<l.length)&&(oT1 l i).2.2&&(oT2 l i).2.2&&(oW1 l i).2.2&&(oW2 l i).2.2&&Nw (wN l i) (oT1 l i).1 (oT2 l i).1 (oW1 l i).1 (oW2 l i).1
theorem FO {s:ByteArray} (h:s.size≤60):s.size≤maxLen:=by simp only [maxLen];omega
def ymQ (l:List Int):Prop:=6≤l.length∧li l ((l.length:Int) - 4)=crc (l.take (l.length - 4))∧(opk l 2=true∧(opv l 2).2.2.2.2.2=(l.length - 4:Nat))∧uf (w2 l 0) (opv l 2).1 (opv l 2).2.1 (opv l 2).2.2.1 (opv l 2).2.2.2.1 (opv l 2).2.2.2.2.1=true
noncomputable instance (l:List Int):Decidable (ymQ l):=Classical.propDecidable _
theorem NA (c:List Int) (p s:Int) (L:List ByteArray) (hL:0<L.length) (hL2:L.length≤1048576) (hs: ∀ t∈L,t.size≤60) (h:zL c p):gives (K4 (c,p,s,L)) c (fun v=>v.size≤60):=by obtain ⟨v,p1,s1,e1,h1,q1⟩:=yM c p s (L.length:Int) h;have:=q1.2 (by omega);unfold K4 nz;rw [e1];simp only [zzal0];rw [y0 q1.1,y0 this];exact ⟨_,_,_,rfl,h1,hs _ (zz UQ L v q1.1 this)⟩
theorem RV (c:List Int) (p s:Int) (h:zL c p):gives (YZ (c,p,s)) c (fun v=>v.size≤60):=by obtain ⟨v,p1,s1,e1,h1,q1⟩:=NA c p s [{data:= #[97]},{data:= #[98]},{data:= #[99]},{data:= #[100]},{data:= #[101,53]}] (by simp) (by simp) (by decide) h;unfold YZ nz;rw [e1];exact ⟨_,_,_,rfl,h1,q1⟩
theorem y2q (c:List Int) (p s:Int) (h:zL c p):gives (jv (c,p,s)) c (fun _=>True):=by obtain ⟨v,p1,s1,e1,h1,q1⟩:=yM c p s 200 h;unfold jv nz;rw [e1];simp only [zzal0];obtain ⟨v2,p2,s2,e2,h2,q2⟩:=Zn c p1 s1 [0,1,2,7,65535,Go.IntKind.wrap .i64 (1+v)] (by simp) (by simp) h1;rw [e2];exact ⟨_,_,_,rfl,h2,trivial⟩
def ou (o:Option (Int×ByteArray×ByteArray×Int×Int×List Int×Int×Int)) (c:List Int):Prop:= ∃ k n t a b p s,o=some (k,n,t,a,b,c,p,s)∧zL c p∧ByteArray.size n≤60∧ByteArray.size t≤60
theorem ybm {c:List Int} {p s:Int} {L:List Int} {k b:Int} {n t:ByteArray} (hL:0<L.length) (hL2:L.length≤1048576) (h:zL c p) (hn:n.size≤60) (ht:t.size≤60):
  ou (Option.bind (yE (c,p,s,L)) fun r=>some (k,n,t,r.1,b,r.2.1,r.2.2.1,r.2.2.2)) c:=by
 obtain ⟨v,p1,s1,e1,h1,_⟩:=Zn c p s L hL hL2 h;rw [e1];exact ⟨_,_,_,_,_,_,_,rfl,h1,hn,ht⟩
theorem ybn {c:List Int} {p s m:Int} {k b:Int} {n t:ByteArray} (h:zL c p) (hn:n.size≤60) (ht:t.size≤60):
  ou (Option.bind (yd (c,p,s,m)) fun r=>some (k,n,t,r.1,b,r.2.1,r.2.2.1,r.2.2.2)) c:=by
 obtain ⟨v,p1,s1,e1,h1,_⟩:=yM c p s m h;rw [e1];exact ⟨_,_,_,_,_,_,_,rfl,h1,hn,ht⟩
theorem ybo {c:List Int} {p s:Int} {L:List Int} {k a:Int} {n:ByteArray} (hL:0<L.length) (hL2:L.length≤1048576) (h:zL c p) (hn:n.size≤60):
  ou (Option.bind (YZ (c,p,s)) fun r4=>Option.bind (yE (r4.2.1,r4.2.2.1,r4.2.2.2,L)) fun r5=>some (k,n,r4.1,a,r5.1,r5.2.1,r5.2.2.1,r5.2.2.2)) c:=by
 obtain ⟨v,p1,s1,e1,h1,q1⟩:=RV c p s h;rw [e1];simp only [zzal0];obtain ⟨v2,p2,s2,e2,h2,_⟩:=Zn c p1 s1 L hL hL2 h1;rw [e2];exact ⟨_,_,_,_,_,_,_,rfl,h2,hn,q1⟩
theorem ybp {c:List Int} {p s m:Int} {k:Int} {n t:ByteArray} (h:zL c p) (hn:n.size≤60) (ht:t.size≤60):
  ou (Option.bind (yd (c,p,s,m)) fun r6=>Option.bind (jv (r6.2.1,r6.2.2.1,r6.2.2.2)) fun r7=>some (k,n,t,r6.1,r7.1,r7.2.1,r7.2.2.1,r7.2.2.2)) c:=by
 obtain ⟨v,p1,s1,e1,h1,_⟩:=yM c p s m h;rw [e1];simp only [zzal0];obtain ⟨v2,p2,s2,e2,h2,_⟩:=y2q c p1 s1 h1;rw [e2];exact ⟨_,_,_,_,_,_,_,rfl,h2,hn,ht⟩
theorem ybq {c:List Int} {p s k a b:Int} {n t:ByteArray} (h:zL c p) (hn:n.size≤60) (ht:t.size≤60):ou (some (k,n,t,a,b,c,p,s)) c:=⟨_,_,_,_,_,_,_,rfl,h,hn,ht⟩
theorem yjM:(⟨#[]⟩:ByteArray).size≤60:=by decide
theorem zl {A:Type} {P:A→Prop} (b:Bool) {x y:A} (hx:P x) (hy:P y):P (bif b then x else y):=by cases b<;>assumption
theorem ybr (c:List Int) (p s:Int) (h:zL c p):ou (jV (c,p,s)) c:=by
 unfold jV nz;obtain ⟨v,p1,s1,e1,h1,_⟩:=Zn c p s [1,1,1,2,2,3,4,4,4,4,4,4,5,6,7,7,8,9] (by simp) (by simp) h;rw [e1];simp only [zzal0];obtain ⟨n,p2,s2,e2,h2,hn⟩:=NA c p1 s1 [{data:= #[97]},{data:= #[97]},{data:= #[98]},{data:= #[99]},{data:= #[100]}] (by simp) (by simp) (by decide) h1;rw [e2];simp only [zzal0];have hz:=yjM
 repeat' (first
  |with_reducible refine zl (P:=fun o=>ou o c) _ ?_ ?_
  |with_reducible exact ybm (by simp) (by simp) h2 hn hz
  |with_reducible exact ybm (by simp) (by simp) h1 hz hz
  |with_reducible exact ybo (by simp) (by simp) h2 hn
  |with_reducible exact ybo (by simp) (by simp) h1 hz
  |with_reducible exact ybp h2 hn hz
  |with_reducible exact ybp h1 hz hz
  |with_reducible exact ybn h2 hn hz
  |with_reducible exact ybn h1 hz hz
  |with_reducible exact ybq h2 hn hz
  |with_reducible exact ybq h1 hz hz)
def body (q k:Int) (n t:ByteArray) (a b:Int):List Int:=two q++([k % 256]++(tx n++(tx t++(two a++two b))))
def y52 (q k:Int) (n t:ByteArray) (a b:Int):List Int:=body q k n t a b++four (crc (body q k n t a b))
theorem C8 (q k:Int) (n t:ByteArray) (a b:Int):isBytes (body q k n t a b):=by refine yS (two_bytes _) (yS ?_ (yS (BF _) (yS (BF _) (yS (two_bytes _) (two_bytes _)))));intro y hy;simp only [yR,aJ,Vr] at hy;subst hy;omega
theorem LR (q k:Int) (n t:ByteArray) (a b:Int):(body q k n t a b).length=11+n.size+t.size:=by unfold body;simp only [yU,oo,two,yp,yr];omega
theorem NB (q k:Int) (n t:ByteArray) (a b:Int):isBytes (y52 q k n t a b):=yS (C8 _ _ _ _ _ _) (ol _)
theorem C9 (q k:Int) (n t:ByteArray) (a b:Int) (hn:n.size≤60) (ht:t.size≤60):WS (q,k,n,t,a,b)=some (if uf q k n t a b=true then y52 q k n t a b else []):=by
 unfold WS nz;simp only [CK q k n t a b (FO hn) (FO ht),zzal0];cases he:uf q k n t a b with
 |false=>rfl
 |true=>
  have ho:Nw k n t a b=true:=by unfold uf at he;simp only [zzal10] at he;exact he.2
  simp only [yJ,yi,yo];rw [Z3 [] q (by simp)];simp only [zzal0,jj];have hO:cw (two q,k,n,t,a,b)=some (body q k n t a b):=by unfold cw nz;simp only [cC k n t a b (FO hn) (FO ht),ho,zzal0,yJ,yi,wrap_u8,jj];rw [y0 (by simp [two]),y0 (by simp [two]),bW _ n (by simp [two]) hn];simp only [zzal0];rw [bW _ t (by simp [two,oo];omega) ht];simp only [zzal0];rw [Z3 _ a (by simp [two,oo];omega)];simp only [zzal0];rw [Z3 _ b (by simp [two,oo];omega)];simp only [zzal0,jF];rfl
  rw [hO];simp only [zzal0];rw [Vf _ (C8 _ _ _ _ _ _) (by rw [LR];omega)];simp only [zzal0];rw [oh _ _ (by rw [LR];omega)];rfl
def dH (s:List y8) (c:List yw):Prop:=(∀ a∈s,isBytes a∧List.length a≤1000)∧(∀ w∈c,isBytes w.2∧List.length w.2≤1000)∧s.length≤60∧c.length≤70
def dI (n:Int) (c:List yw) (d:List Int):List Int:=c.foldl (fun acc w=>if w.1=n then w.2 else acc) d
theorem Ec (n:Int): ∀ (c:List yw) (d:List Int) (P:List Int→Prop),(∀ w∈c,P w.2)→P d→P (dI n c d)
 |[],d,P,_,h=>h
 |w::c,d,P,hc,h=>by
  unfold dI;rw [Zl];refine Ec n c _ P (fun w hw=>hc w (by simp [hw])) ?_;split
  ·exact hc w (by simp)
  ·exact h
theorem RW (a:List Int) (h:a.length≤2097152):zE [a]=some a:=WT a h
def Zx (s:List y8) (c:List yw) (z:Int) (n:Int):List Int:=if (cx s c z&&Yn n 0 ((s.length:Int) - 1))=true then dI n c (s.getD n.toNat []) else []
theorem mo (s:List y8) (c:List yw) (z n:Int) (h:dH s c):isBytes (Zx s c z n)∧(Zx s c z n).length≤1000:=by
 unfold Zx;split
 ·rename_i hc;simp only [zzal10,zi] at hc;refine Ec n c _ (fun l=>isBytes l∧l.length≤1000) h.2.1 (h.1 _ (zz ([]:List Int) s n hc.2.1 (by omega)))
 ·exact ⟨fun y hy=>by simp at hy,by simp⟩
theorem uC (s:List y8) (c:List yw) (z:Int) (b:Bool) (n:Int) (h:dH s c):ZH (s,c,z,b,n)=some (Zx s c z n):=by
 have hr:=mo s c z n h;obtain ⟨b1,b2,b3,b4⟩:=h;unfold ZH nz;simp only [zK];rw [KZ s c z b (by omega) (by omega),zb (n:=(s.length:Int) - 1) (by omega) (by omega)];simp only [zzal0];cases hd:cx s c z with
 |false=>unfold Zx;rw [hd];rfl
 |true=>
  simp only [yJ,yi,zzal0];cases hin:Yn n 0 ((s.length:Int) - 1) with
  |false=>unfold Zx;rw [hd,hin];rfl
  |true=>
   have hn:=zi.1 hin;have hrk:Zx s c z n=dI n c (YK s n):=by unfold Zx;rw [hd,hin];rfl
   simp only [yJ,yi];rw [y0 hn.1,y0 (by omega)];unfold fP;refine (Ym (step:=Ke _) (fun t:Int×List Int×Int×List y8×List yw×Int×Bool=>c.length - t.2.2.1.toNat) (fun t=>t.1=n∧0≤t.2.2.1∧t.2.2.1≤c.length∧t.2.2.2.2.1=c∧dI n (c.drop t.2.2.1.toNat) t.2.1=Zx s c z n) (fun t=>some (Zx s c z n)) ?_ (n,YK s n,0,s,c,z,b) ⟨rfl,yP _,by simp,rfl,by rw [hrk];rfl⟩ (by simp;omega));rintro again ⟨n',d,i,s',c',z',b'⟩ ⟨rfl,i0,i1,rfl,hk⟩ hag;simp only at i0 i1 hk hr b2 b3 b4 hn;unfold Ke nz;simp only [];by_cases hi:i<(c'.length:Int)
   ·rw [yG hi,yg,y0 i0,y0 hi,zb (n:=i+1) (by omega) (by omega)];rw [ZW aM c' i i0 hi] at hk;unfold dI at hk;rw [Zl] at hk;cases he:((zr c' i).1==n') with
    |true=>have he':(c'.getD i.toNat aM).1=n':=eq_of_beq he;rw [y0 he'] at hk;rw [yg,y0 i0,y0 hi];exact hag _ ⟨rfl,by simp only;omega,by simp only;omega,rfl,hk⟩ (by simp only;omega)
    |false=>
     have he': ¬ (c'.getD i.toNat aM).1=n':=fun hh=>by rw [show ((zr c' i).1==n')=true from vM.2 hh] at he;cases he
     rw [y9 he'] at hk;rw [yi];exact hag _ ⟨rfl,by simp only;omega,by simp only;omega,rfl,hk⟩ (by simp only;omega)
   ·rw [yX hi,yi];rw [aE (by omega)] at hk;have hk':d=Zx s c' z n':=hk;rw [hk'];simp only [yr,jj];rw [y0 (by omega)]
theorem uD (s:List y8) (c:List yw) (z:Int) (b:Bool) (n:Int) (h:dH s c):Zf (s,c,z,b,n)=some (Zx s c z n):=by
 have hr:=mo s c z n h;obtain ⟨b1,b2,b3,b4⟩:=h;unfold Zf nz;simp only [Yq];rw [K_ s c z b (by omega) (by omega),zb (n:=(s.length:Int) - 1) (by omega) (by omega)];simp only [zzal0];cases hd:cx s c z with
 |false=>unfold Zx;rw [hd];rfl
 |true=>
  simp only [yJ,yi,zzal0];cases hin:Yn n 0 ((s.length:Int) - 1) with
  |false=>unfold Zx;rw [hd,hin];rfl
  |true=>
   have hn:=zi.1 hin;have hrk:Zx s c z n=dI n c (YK s n):=by unfold Zx;rw [hd,hin];rfl
   simp only [yJ,yi];rw [zb (n:=(c.length:Int) - 1) (by omega) (by omega)];unfold fM;refine (Ym (step:=Kb _ _) (fun t:Int×Int×List y8×List yw×Int×Bool=>(t.2.1+1).toNat) (fun t=>t.1=n∧ -1≤t.2.1∧t.2.1<c.length∧t.2.2.1=s∧t.2.2.2.1=c∧dI n (c.take (t.2.1+1).toNat) (YK s n)=Zx s c z n) (fun t=>some (Zx s c z n)) ?_ (n,(c.length:Int) - 1,s,c,z,b) ⟨rfl,by simp only;omega,by simp only;omega,rfl,rfl,by simp only;rw [rT (by omega),hrk]⟩ (by simp only;omega));rintro again ⟨n',i,s',c',z',b'⟩ ⟨rfl,i0,i1,rfl,rfl,hk⟩ hag;simp only at i0 i1 hk hr b2 b3 b4 hn;unfold Kb nz;simp only [];by_cases hi:i≥0
   ·rw [yG hi,yg,y0 hi,y0 i1,zb (n:=i - 1) (by omega) (by omega)];have htk:c'.take (i+1).toNat=c'.take i.toNat++[c'.getD i.toNat aM]:=by
     rw [show (i+1).toNat=i.toNat+1 by omega,Mi (by omega),re aM c' i hi i1]
    rw [htk] at hk;unfold dI at hk;rw [List.foldl_append,Zl,List.foldl_nil] at hk;cases he:((zr c' i).1==n') with
    |true=>have he':(c'.getD i.toNat aM).1=n':=eq_of_beq he;rw [y0 he'] at hk;rw [yg,y0 hi,y0 i1];have hk':(zr c' i).2=Zx s' c' z n':=hk;rw [hk',RW _ (by omega)];rfl
    |false=>
     have he': ¬ (c'.getD i.toNat aM).1=n':=fun hh=>by rw [show ((zr c' i).1==n')=true from vM.2 hh] at he;cases he
     rw [y9 he'] at hk;rw [yi];exact hag _ ⟨rfl,by simp only;omega,by simp only;omega,rfl,rfl,by simp only;rw [show (i - 1+1).toNat=i.toNat by omega];exact hk⟩ (by simp only;omega)
   ·rw [yX hi,yi];have hi':i= -1:=by omega
    subst hi';have hk':YK s' n'=Zx s' c' z n':=hk;rw [y0 hn.1,y0 (by omega),hk',RW _ (by omega)];rfl
def td (s:List y8) (c:List yw) (z:Int):Prop:=(cx s c z=true→dH s c)∧s.length≤1048576∧c.length≤1048576
theorem eM (s:List y8) (c:List yw) (z n:Int) (h:td s c z):isBytes (Zx s c z n)∧(Zx s c z n).length≤1000:=by
 cases hd:cx s c z with
 |true=>exact mo s c z n (h.1 hd)
 |false=>unfold Zx;rw [hd];exact ⟨fun y hy=>by simp at hy,by simp⟩
theorem dJ (s:List y8) (c:List yw) (z:Int) (b:Bool) (n:Int) (h:td s c z):ZH (s,c,z,b,n)=some (Zx s c z n):=by
 cases hd:cx s c z with
 |true=>exact uC s c z b n (h.1 hd)
 |false=>unfold ZH Zx nz;simp only [zK];rw [KZ s c z b h.2.1 h.2.2,hd];rfl
theorem qP (s:List y8) (c:List yw) (z:Int) (b:Bool) (n:Int) (h:td s c z):Zf (s,c,z,b,n)=some (Zx s c z n):=by
 cases hd:cx s c z with
 |true=>exact uD s c z b n (h.1 hd)
 |false=>unfold Zf Zx nz;simp only [Yq];rw [K_ s c z b h.2.1 h.2.2,hd];rfl
def y2r (s:List y8) (c:List yw):Prop:=(∀ w∈c,0≤w.1∧w.1<s.length)∧c.length≤60∧0<s.length
theorem Tz (n:Int) (h0:1≤n) (h1:n≤60): ∃ s z b,ZD n=some (s,[],z,b)∧(s.length:Int)=n∧ ∀ a∈s,a=[]:=by
 unfold ZD nz;rw [zK,show Yn n 1 60=true from zi.2 ⟨h0,h1⟩];simp only [zzal0,yJ,yi];unfold bK;refine Yo (step:=YH _ _) (fun t=>match t with| .inl _=>100| .inr t=>(n - t.2.1).toNat) (fun t=>match t with| .inl t=>t.1=n∧t.2.1=0| .inr t=>t.1=n∧1≤t.2.1∧t.2.1≤n∧(t.2.2.2.2.2.2.length:Int)=t.2.1∧ ∀ a∈t.2.2.2.2.2.2,a=[]) (fun _ res=> ∃ (s:List y8) (z:Int) (b:Bool),res=some (s,([]:List yw),z,b)∧(s.length:Int)=n∧ ∀ a∈s,a=[]) ?_ (Sum.inl (n,0,0,false,-1,false)) ⟨rfl,rfl⟩ (show 100<18446744073709551616 by decide);rintro again (⟨a,i,r⟩|⟨a,i,e1,e2,e3,e4,l⟩) hinv hag
 ·obtain ⟨rfl,rfl⟩:=hinv;unfold YH nz;simp only [];rw [yG (show (0:Int)<a by omega),yg,y0 (by decide),zb (n:=0+1) (by omega) (by omega)];exact hag _ ⟨rfl,by simp only;omega,by simp only;omega,rfl,by simp⟩ (by simp only;omega)
 ·obtain ⟨rfl,i0,i1,hl,hall⟩:=hinv;simp only at i0 i1 hl hall;unfold YH nz;simp only [];by_cases hi:i<a
  ·rw [yG hi,yg,y0 (by simp only [yp,yr];omega),zb (n:=i+1) (by omega) (by omega)];refine hag _ ⟨rfl,by simp only;omega,by simp only;omega,?_,?_⟩ (by simp only;omega)
   ·simp only [yU,yp,yr];omega
   ·intro x hx;simp only [zB,yR,aJ,Vr] at hx;exact hx.elim (hall x) id
  ·rw [yX hi,yi];exact ⟨l,_,_,rfl,by omega,hall⟩
def Ca (o:Option (List y8×List yw×Int×Bool)) (s0:List y8):Prop:= ∃ s c z b,o=some (s,c,z,b)∧dH s c∧y2r s c∧s.length=s0.length
theorem y2s (s:List y8) (c:List yw) (z:Int) (b:Bool): ∃ r z' b',Vc (s,c,z,b)=some (r,s,c,z',b'):=by
 unfold Vc nz;simp only [];cases (z==(0:Int))
 ·cases decide (z>0)
  ·exact ⟨_,_,_,rfl⟩
  ·exact ⟨_,_,_,rfl⟩
 ·exact ⟨_,_,_,rfl⟩
theorem y2t (s:List y8) (c:List yw) (z:Int) (b:Bool) (n:Int) (l:List Int) (hB:dH s c) (hR:y2r s c) (hl:isBytes l):Ca (Zg (s,c,z,b,n,l)) s:=by
 obtain ⟨b1,b2,b3,b4⟩:=hB;obtain ⟨r1,r2,r3⟩:=hR;have same: ∀ z' b',Ca (some (s,c,z',b')) s:=fun z' b'=>⟨s,c,z',b',rfl,⟨b1,b2,b3,b4⟩,⟨r1,r2,r3⟩,rfl⟩
 unfold Zg nz;simp only [zK];rw [zb (n:=(s.length:Int) - 1) (by omega) (by omega)];cases b with
 |true=>exact same _ _
 |false=>
  simp only [yi,zzal0];cases hin:Yn n 0 ((s.length:Int) - 1) with
  |false=>exact same _ _
  |true=>
   simp only [yJ,yi,zzal0];by_cases h80:(l.length:Int)>80
   ·rw [yG h80];exact same _ _
   ·rw [yX h80];simp only [yi,zzal0];by_cases h60:(c.length:Int)≥60
    ·rw [yG h60];exact same _ _
    ·rw [yX h60];simp only [yi];obtain ⟨r,z',b',e⟩:=y2s s c z false;rw [e];simp only [zzal0];cases r with
     |false=>exact same _ _
     |true=>
      have hn:=zi.1 hin;simp only [yJ,yi,jj,yr,yp];rw [y0 (by omega),y0 (by omega)];refine ⟨s,c++[(n,l)],z',b',rfl,⟨b1,?_,b3,?_⟩,⟨?_,?_,r3⟩,rfl⟩
      ·intro w hw;simp only [zB,yR,aJ,Vr] at hw;rcases hw with hw|rfl
       ·exact b2 w hw
       ·exact ⟨hl,by show l.length≤1000;omega⟩
      ·simp only [yU,yp,yr];omega
      ·intro w hw;simp only [zB,yR,aJ,Vr] at hw;rcases hw with hw|rfl
       ·exact r1 w hw
       ·exact ⟨hn.1,by show n<(s.length:Int);omega⟩
      ·simp only [yU,yp,yr];omega
theorem y2u (s:List y8) (c:List yw) (z:Int) (b:Bool) (hB:dH s c) (hR:y2r s c):Ca (qg (s,c,z,b)) s:=by
 obtain ⟨b1,b2,b3,b4⟩:=hB;obtain ⟨r1,r2,r3⟩:=hR;have same: ∀ z' b',Ca (some (s,c,z',b')) s:=fun z' b'=>⟨s,c,z',b',rfl,⟨b1,b2,b3,b4⟩,⟨r1,r2,r3⟩,rfl⟩
 unfold qg nz;simp only [];cases b with
 |true=>exact same _ _
 |false=>
  simp only [yi];obtain ⟨r,z',b',e⟩:=y2s s c z false;rw [e];simp only [zzal0];cases r with
  |false=>exact same _ _
  |true=>
   simp only [yJ,yi];unfold fO;refine Yo (step:=Kd _) (fun t:Int×Int×Bool×List y8×List yw=>c.length - t.1.toNat) (fun t=>t.2.2.2.2=c∧0≤t.1∧t.1≤c.length∧t.2.2.2.1.length=s.length∧ ∀ a∈t.2.2.2.1,isBytes a∧List.length a≤1000) (fun _ res=>Ca res s) ?_ _ ⟨rfl,yP _,by simp,rfl,b1⟩ (by simp;omega);rintro again ⟨i,z2,b2',s2,c2⟩ ⟨rfl,i0,i1,hl,hs⟩ hag;simp only at i0 i1 hl hs b2 b4 r1 r2 hag;unfold Kd nz;simp only [];by_cases hi:i<(c2.length:Int)
   ·have hm:=zz aM c2 i i0 hi;have hw:=r1 _ hm;have hwb:=b2 _ hm;rw [yG hi,yg,y0 i0,y0 hi,y0 i0,y0 hi,y0 (show (0:Int)≤(zr c2 i).1 from hw.1),y0 (show (zr c2 i).1<(s2.length:Int) by rw [hl];exact hw.2),zb (n:=i+1) (by omega) (by omega)];refine hag _ ⟨rfl,by simp only;omega,by simp only;omega,by simp only [Yt];exact hl,fun a ha=> ?_⟩ (by simp only;omega);rcases Vo ha with h|rfl
    ·exact hs a h
    ·exact hwb
   ·rw [yX hi,yi];refine ⟨s2,[],_,_,rfl,⟨hs,by simp,by omega,by simp⟩,⟨by simp,by simp,by omega⟩,hl⟩
theorem Cb (x:List Int) (p s n:Int) (h:zL x p) (hn:n≤900):gives (wA (x,p,s,n)) x (fun l=>isBytes l∧l.length≤1000):=by
 unfold wA fN nz;refine Yo (step:=Kc _) (fun t:Int×Int×List Int×Int×Int×List Int=>(900 - t.2.1).toNat) (fun t=>t.1=n∧0≤t.2.1∧t.2.1≤900∧t.2.2.1=x∧zL x t.2.2.2.1∧isBytes t.2.2.2.2.2∧(t.2.2.2.2.2.length:Int)=t.2.1) (fun _ res=>gives res x (fun l=>isBytes l∧l.length≤1000)) ?_ _ ⟨rfl,yP _,by simp,rfl,h,fun y hy=>by simp at hy,rfl⟩ (by simp);rintro again ⟨n',i,x',p',s',l⟩ ⟨rfl,i0,i1,rfl,hc,hb,hl⟩ hag;simp only at i0 i1 hc hb hl;unfold Kc nz;simp only [];by_cases hi:i<n'
 ·obtain ⟨v,p1,s1,e1,h1,q1⟩:=xE x' p' s' hc;rw [yG hi,yg,e1];simp only [zzal0,yp,yr];rw [y0 (by omega),zb (n:=i+1) (by omega) (by omega)];have rw':=CE v;refine hag _ ⟨rfl,by simp only;omega,by simp only;omega,rfl,h1,?_,?_⟩ (by simp only;omega)
  ·refine yS hb fun y hy=> ?_;simp only [yR,aJ,Vr] at hy;subst hy;exact rw'
  ·simp only [yU,yp,yr];omega
 ·rw [yX hi,yi];exact ⟨l,_,_,rfl,hc,hb,by omega⟩
def RX (o:Option (List y8×List yw×Int×Bool×List Int×Int×Int)) (x:List Int):Prop:= ∃ s c z b p sd,o=some (s,c,z,b,x,p,sd)∧dH s c∧0<s.length∧zL x p∧c.length≤60
theorem NC (x:List Int) (p sd:Int) (h:zL x p):RX (QY (x,p,sd)) x:=by
 obtain ⟨v1,p1,s1,e1,h1,q1⟩:=yM x p sd 6 h;have:=q1.2 (by omega);obtain ⟨s,z,b,e2,hs,hall⟩:=Tz (2+v1) (by omega) (by omega);obtain ⟨v3,p3,s3,e3,h3,q3⟩:=yM x p1 s1 8 h1;have q3':=q3.2 (by omega);unfold QY nz;rw [e1];simp only [zzal0];rw [zb (n:=2+v1) (by omega) (by omega),e2];simp only [zzal0];rw [e3];simp only [zzal0];unfold iV;have hB0:dH s []:=⟨fun a ha=>by rw [hall a ha];exact ⟨fun y hy=>by simp at hy,by simp⟩,by simp,by omega,by simp⟩
 have hR0:y2r s []:=⟨by simp,by simp,by omega⟩
 refine Yo (step:=vH _) (fun t:Int×List Int×Int×Int×Int×Bool×Int×Bool×List y8×List yw=>t.1.toNat) (fun t=>0≤t.1∧t.1≤8∧t.2.1=x∧zL x t.2.2.1∧dH t.2.2.2.2.2.2.2.2.1 t.2.2.2.2.2.2.2.2.2∧y2r t.2.2.2.2.2.2.2.2.1 t.2.2.2.2.2.2.2.2.2) (fun _ res=>RX res x) ?_ _ ⟨q3.1,by simp only;omega,rfl,h3,hB0,hR0⟩ (by simp only;omega);rintro again ⟨i,x',p',sd',d1,d2,z',b',s',c'⟩ ⟨i0,i1,rfl,hc,hB,hR⟩ hag;simp only at i0 i1 hc hB hR;unfold vH nz;simp only [];by_cases hi:i>0
 ·rw [yG hi,yg];obtain ⟨v4,p4,s4,e4,h4,_⟩:=y4Q x' p' sd' 4 hc;rw [e4];simp only [zzal0];rw [zb (n:=i - 1) (by omega) (by omega)];cases v4 with
  |true=>obtain ⟨s5,c5,z5,b5,e5,hB5,hR5,_⟩:=y2u s' c' z' b' hB hR;rw [yg,e5];exact hag _ ⟨by simp only;omega,by simp only;omega,rfl,h4,hB5,hR5⟩ (by simp only;omega)
  |false=>rw [yi];obtain ⟨v6,p6,s6,e6,h6,_⟩:=yM x' p4 s4 (s'.length:Int) h4;obtain ⟨v7,p7,s7,e7,h7,q7⟩:=yM x' p6 s6 4 h6;have:=q7.2 (by omega);obtain ⟨l8,p8,s8,e8,h8,q8⟩:=Cb x' p7 s7 v7 h7 (by omega);obtain ⟨s9,c9,z9,b9,e9,hB9,hR9,_⟩:=y2t s' c' z' b' v6 l8 hB hR q8.1;rw [e6];simp only [zzal0];rw [e7];simp only [zzal0];rw [e8];simp only [zzal0];rw [e9];exact hag _ ⟨by simp only;omega,by simp only;omega,rfl,h8,hB9,hR9⟩ (by simp only;omega)
 ·rw [yX hi,yi];exact ⟨_,_,_,_,_,_,rfl,hB,hR.2.2,hc,hR.2.1⟩
theorem Ed (x:List Int) (p sd:Int) (h:zL x p): ∃ s c z b p' sd',qi (x,p,sd)=some (s,c,z,b,x,p',sd')∧dH s c∧zL x p':=by
 obtain ⟨s,c,z,b,p1,s1,e1,hB,hs0,h1,hc60⟩:=NC x p sd h;obtain ⟨v2,p2,s2,e2,h2,_⟩:=yM x p1 s1 12 h1;obtain ⟨b1,b2,b3,b4⟩:=hB;unfold qi nz;rw [e1];simp only [zzal0];rw [e2];simp only [zzal0];cases (v2==(0:Int)) with
 |true=>
  rw [yg];obtain ⟨v3,p3,s3,e3,h3,q3⟩:=yM x p2 s2 2 h2;have:=q3.2 (by omega);rw [e3];simp only [zzal0];rw [zb (n:=80+v3) (by omega) (by omega),y0 (by omega),y0 (by omega),y0 (by omega),y0 (by omega),y0 (by omega)];refine ⟨_,_,_,_,_,_,rfl,⟨fun a ha=> ?_,b2,by simp only [Yt];exact b3,b4⟩,h3⟩;rcases Vo ha with h|rfl
  ·exact b1 a h
  ·refine ⟨fun y hy=> ?_,by rw [g7];omega⟩;rw [List.eq_of_mem_replicate hy];exact ⟨yP 0,by show (0:Int)<256;omega⟩
 |false=>
  rw [yi];cases (v2==(1:Int)) with
  |true=>
   rw [yg];obtain ⟨v3,p3,s3,e3,h3,_⟩:=Zn x p2 s2 [-1,0,99] (by simp) (by simp) h2;obtain ⟨l4,p4,s4,e4,h4,q4⟩:=Cb x p3 s3 2 h3 (by omega);rw [e3];simp only [zzal0];rw [e4];simp only [zzal0,yp,yr];rw [y0 (by omega)];refine ⟨_,_,_,_,_,_,rfl,⟨b1,fun w hw=> ?_,b3,by simp only [yU,yp,yr];omega⟩,h4⟩;simp only [zB,yR,aJ,Vr] at hw;rcases hw with hw|rfl
   ·exact b2 w hw
   ·exact q4
  |false=>
   rw [yi];cases (v2==(2:Int)) with
   |true=>
    rw [yg];unfold l_;refine Yo (step:=qh _) (fun t:List Int×Int×Int×Int×Bool×Int×Bool×List y8×List yw=>100 - t.2.2.2.2.2.2.2.2.length) (fun t=>t.1=x∧zL x t.2.1∧t.2.2.2.2.2.2.2.1=s∧t.2.2.2.2.2.2.2.2.length≤62∧ ∀ w∈t.2.2.2.2.2.2.2.2,isBytes w.2∧List.length w.2≤1000) (fun _ res=> ∃ s c z b p' sd',res=some (s,c,z,b,x,p',sd')∧dH s c∧zL x p') ?_ _ ⟨rfl,h2,rfl,by simp only;omega,b2⟩ (by simp only;omega);rintro again ⟨x',p',sd',d1,d2,z',b',s',c'⟩ ⟨rfl,hc,rfl,hl,hw⟩ hag;simp only at hc hl hw b1 b3 hs0;obtain ⟨v3,p3,s3,e3,h3,q3⟩:=yM x' p' sd' 3 hc;have:=q3.2 (by omega);unfold qh nz;simp only [];rw [e3];simp only [zzal0];rw [zb (n:=59+v3) (by omega) (by omega)];by_cases hlt:(c'.length:Int)<59+v3
    ·rw [yG hlt,yg];simp only [yp,yr];rw [y0 (by omega)];refine hag _ ⟨rfl,h3,rfl,by simp only [yU,yp,yr];omega,fun w hw'=> ?_⟩ (by simp only [yU,yp,yr];omega);simp only [zB,yR,aJ,Vr] at hw';rcases hw' with hw'|rfl
     ·exact hw w hw'
     ·exact ⟨fun y hy=>by simp at hy,by simp⟩
    ·rw [yX hlt,yi];exact ⟨_,_,_,_,_,_,rfl,⟨b1,hw,b3,by omega⟩,h3⟩
   |false=>
    rw [yi];cases (v2==(3:Int)) with
    |true=>obtain ⟨v3,p3,s3,e3,h3,_⟩:=Zn x p2 s2 [0,1,5,-2,1001] (by simp) (by simp) h2;rw [yg,e3];exact ⟨_,_,_,_,_,_,rfl,⟨b1,b2,b3,b4⟩,h3⟩
    |false=>
     rw [yi];cases (v2==(4:Int)) with
     |true=>exact ⟨_,_,_,_,_,_,rfl,⟨b1,b2,b3,b4⟩,h2⟩
     |false=>
      rw [yi];cases (v2==(5:Int)) with
      |true=>exact ⟨_,_,_,_,_,_,rfl,⟨b1,b2,b3,b4⟩,h2⟩
      |false=>exact ⟨_,_,_,_,_,_,rfl,⟨b1,b2,b3,b4⟩,h2⟩
theorem LS (x:Int): ∃ v,WR x=some v:=by
 unfold WR nz;cases decide (x<0)
 ·exact ⟨_,rfl⟩
 ·exact ⟨_,rfl⟩
def cD (o:Option (Int×Int×Int×Int×Int×List Int×Int×Int)) (c:List Int):Prop:= ∃ a b k d g p s,o=some (a,b,k,d,g,c,p,s)∧zL c p
theorem fW (c:List Int) (p s:Int) (h:zL c p):cD (Y_ (c,p,s)) c:=by obtain ⟨v1,p1,s1,e1,h1,q1⟩:=yM c p s 4 h;obtain ⟨v2,p2,s2,e2,h2,q2⟩:=yM c p1 s1 5 h1;obtain ⟨v3,p3,s3,e3,h3,q3⟩:=Zn c p2 s2 [0,1,1,1,2] (by simp) (by simp) h2;obtain ⟨v4,p4,s4,e4,h4,q4⟩:=yM c p3 s3 24 h3;obtain ⟨v5,p5,s5,e5,h5,q5⟩:=Zn c p4 s4 [0,1,256,999] (by simp) (by simp) h4;unfold Y_ nz;simp only [e1,e2,e3,e4,e5,zzal0];exact zl (P:=fun o=>cD o c) _ ⟨_,_,_,_,_,_,_,rfl,h5⟩ ⟨_,_,_,_,_,_,_,rfl,h3⟩
theorem y53 (c:List Int) (p s:Int) (h:zL c p):cD (ci (c,p,s)) c:=by obtain ⟨a,b,k,d,g,p1,s1,e1,h1⟩:=fW c p s h;obtain ⟨v2,p2,s2,e2,h2,q2⟩:=yM c p1 s1 12 h1;obtain ⟨v3,p3,s3,e3,h3,q3⟩:=Zn c p2 s2 [-1,15,16] (by simp) (by simp) h2;obtain ⟨v4,p4,s4,e4,h4,q4⟩:=Zn c p2 s2 [0,60,61] (by simp) (by simp) h2;obtain ⟨v5,p5,s5,e5,h5,q5⟩:=Zn c p2 s2 [-1,3] (by simp) (by simp) h2;obtain ⟨v6,p6,s6,e6,h6,q6⟩:=Zn c p2 s2 [-1,1,23,24] (by simp) (by simp) h2;obtain ⟨v7,p7,s7,e7,h7,q7⟩:=Zn c p2 s2 [-1,1,999,1000] (by simp) (by simp) h2;unfold ci nz;simp only [e1,e2,e3,e4,e5,e6,e7,zzal0];exact zl (P:=fun o=>cD o c) _ ⟨_,_,_,_,_,_,_,rfl,h3⟩ (zl (P:=fun o=>cD o c) _ ⟨_,_,_,_,_,_,_,rfl,h4⟩ (zl (P:=fun o=>cD o c) _ ⟨_,_,_,_,_,_,_,rfl,h5⟩ (zl (P:=fun o=>cD o c) _ ⟨_,_,_,_,_,_,_,rfl,h6⟩ (zl (P:=fun o=>cD o c) _ ⟨_,_,_,_,_,_,_,rfl,h7⟩ ⟨_,_,_,_,_,_,_,rfl,h2⟩))))
theorem yjN (c:List Int) (p s:Int) (h:zL c p):cD (ch (c,p,s)) c:=by obtain ⟨a,b,k,d,g,p1,s1,e1,h1⟩:=fW c p s h;obtain ⟨v2,p2,s2,e2,h2,q2⟩:=yM c p1 s1 12 h1;unfold ch nz;simp only [e1,e2,zzal0];exact ⟨_,_,_,_,_,_,_,rfl,h2⟩
theorem y54 (c:List Int) (p s m:Int) (h:zL c p) (m0:0≤m) (m1:m≤100):gives (QK (c,p,s,m)) c (fun l=>l.length≤101):=by
 obtain ⟨v1,p1,s1,e1,h1,q1⟩:=yM c p s (m+1) h;have b1:=q1.2 (by omega);unfold QK iK nz
 try simp only []
 rw [show Go.IntKind.wrap .i64 (m+1)=m+1 from zb (by omega) (by omega),e1];simp only [zzal0];refine Yo (step:=vv _) (fun u:vu=>u.1.toNat) (fun u=> ∃ k l p s,u=(k,c,p,s,l)∧zL c p∧0≤k∧(List.length l:Int)+k≤101) (fun _ (res:Option (List y7×List Int×Int×Int))=>gives res c (fun l:List y7=>l.length≤101)) ?_ (v1,c,p1,s1,[]) ⟨v1,[],p1,s1,rfl,h1,q1.1,by simp;omega⟩ (by simp only;omega);rintro again _ ⟨k,l,p,s,rfl,hc,hk,hl⟩ hag;unfold vv nz;simp only [yl,ym];by_cases hk2:k>0
 ·obtain ⟨a,b,kk,d,g,p2,s2,e2,h2⟩:=fW c p s hc;have hs:=kP l (a,b,kk,d,g);have hw:Go.IntKind.wrap .i64 (k - 1)=k - 1:=zb (by omega) (by omega);simp only [y0 hk2,e2,zzal0,kQ l a b kk d g (by omega),hw];exact hag _ ⟨_,_,_,_,rfl,h2,by omega,by omega⟩ (by simp only;omega)
 ·simp only [y9 hk2];exact ⟨_,_,_,rfl,hc,by simp only;omega⟩
theorem ND (c:List Int) (p s m:Int) (h:zL c p) (m0:0≤m) (m1:m≤100):gives (cj (c,p,s,m)) c (fun l=>l.length≤102):=by
 obtain ⟨l,p1,s1,e1,h1,q1⟩:=y54 c p s m h m0 m1;obtain ⟨v2,p2,s2,e2,h2,q2⟩:=yM c p1 s1 8 h1;obtain ⟨a,b,k,d,g,p3,s3,e3,h3⟩:=y53 c p2 s2 h2;unfold cj nz;simp only [e1,e2,e3,zzal0];refine zl (P:=fun o=>gives o c (fun l:List y7=>l.length≤102)) _ ?_ (zl (P:=fun o=>gives o c (fun l:List y7=>l.length≤102)) _ (ZZ (P:=fun o=>gives o c (fun l:List y7=>l.length≤102)) _ (fun hh=> ?_) fun _=>⟨_,_,_,rfl,h2,by omega⟩) ⟨_,_,_,rfl,h2,by omega⟩)
 ·rw [y0 (by simp only [yp,yr];omega)];exact ⟨_,_,_,rfl,h3,by simp only [yU,yp,yr];omega⟩
 ·have hh:=of_decide_eq_true hh;simp only [Yt,y0 (yP (0:Int)),y0 (show (0:Int)<((List.length l:Nat):Int) by omega),y0 (show (0:Int)≤1 by omega),y0 (show (1:Int)<((List.length l:Nat):Int) by omega)];exact ⟨_,_,_,rfl,h2,by simp only [Yt];omega⟩
def TZ (n:List yc) (a:Nat) (b:Int):Prop:=n.length≤a∧Yh J8 n≤b
theorem TZ.ns {n:List yc} {a:Nat} {b:Int} (h:TZ n a b) (ha:a≤900) (hb:b≤900):NS n:=⟨YI h.1 (by omega),by have:=h.2;omega⟩
theorem LU (n:List yc) (k:y7) (h:TZ n 3 8):TZ (Z8 n k).1 3 8:=by
 unfold Z8;split
 ·rename_i hh;exact ⟨(JV hh).1,(JV hh).2.1⟩
 ·split
  ·exact h
  ·split
   ·rename_i hh;exact ⟨(JV hh).1,(JV hh).2.1⟩
   ·exact h
theorem y2v (c:List Int) (p s:Int) (h:zL c p):gives (QJ (c,p,s)) c (fun n:List yc=>TZ n 3 8):=by
 obtain ⟨v1,p1,s1,e1,h1,q1⟩:=yM c p s 12 h;have b1:=q1.2 (by omega);have z0:TZ [] 3 8:=⟨by simp,by simp [Yh]⟩
 unfold QJ iJ nz;rw [e1];simp only [zzal0];refine Yo (step:=Wu _ _) (fun u:vt=>match u with| .inl u=>u.1.toNat| .inr u=>u.1.toNat) (fun u=>match u with| .inl u=> ∃ k p s,u=(k,c,p,s)∧zL c p∧0≤k∧k≤100| .inr u=> ∃ k n p s,u=(k,c,p,s,n)∧zL c p∧0≤k∧k≤100∧TZ n 3 8) (fun _ (res:Option (List yc×List Int×Int×Int))=>gives res c (fun n:List yc=>TZ n 3 8)) ?_ (Sum.inl (v1,c,p1,s1)) ⟨v1,p1,s1,rfl,h1,q1.1,by omega⟩ (by simp only;omega);intro again u hu hag;have step: ∀ (k:Int) (n:List yc) (p s:Int),zL c p→0≤k→k≤100→TZ n 3 8→k>0→(∀ k' n' p' s',zL c p'→0≤k'→k'<k→TZ n' 3 8→gives (again (Sum.inr (k',c,p',s',n'))) c (fun n:List yc=>TZ n 3 8))→gives (Option.bind (Y_ (c,p,s)) fun r2=>Option.bind (jS (n,r2.1,r2.2.1,r2.2.2.1,r2.2.2.2.1,r2.2.2.2.2.1)) fun r3=>again (Sum.inr ((Go.IntKind.wrap .i64 (k - (1:Int))),r2.2.2.2.2.2.1,r2.2.2.2.2.2.2.1,r2.2.2.2.2.2.2.2,r3.1))) c (fun n:List yc=>TZ n 3 8):=by intro k n p s hc k0 k1 hn hk y2w;obtain ⟨a,b,kk,d,g,p2,s2,e2,h2⟩:=fW c p s hc;have hw:Go.IntKind.wrap .i64 (k - 1)=k - 1:=zb (by omega) (by omega);simp only [e2,zzal0,lg n a b kk d g (hn.ns (by omega) (by omega)),hw];exact y2w _ _ _ _ h2 (by omega) (by omega) (LU n _ hn)
 cases u with
 |inl u=>
  obtain ⟨k,p,s,rfl,hc,k0,k1⟩:=hu;unfold Wu nz;simp only [yl,ym];by_cases hk:k>0
  ·simp only [y0 hk];exact step k [] p s hc k0 k1 z0 hk fun k' n' p' s' g1 g2 g3 g4=>hag _ ⟨_,_,_,_,rfl,g1,g2,by omega,g4⟩ (by simp only;omega)
  ·simp only [y9 hk];exact ⟨_,_,_,rfl,hc,z0⟩
 |inr u=>
  obtain ⟨k,n,p,s,rfl,hc,k0,k1,hn⟩:=hu;unfold Wu nz;simp only [yl,ym];by_cases hk:k>0
  ·simp only [y0 hk];exact step k n p s hc k0 k1 hn hk fun k' n' p' s' g1 g2 g3 g4=>hag _ ⟨_,_,_,_,rfl,g1,g2,by omega,g4⟩ (by simp only;omega)
  ·simp only [y9 hk];exact ⟨_,_,_,rfl,hc,hn⟩
theorem uh (c:List Int) (p s:Int) (h:zL c p):gives (VN (c,p,s)) c (fun n:List yc=>NS n):=by
 obtain ⟨n,p1,s1,e1,h1,q1⟩:=y2v c p s h;obtain ⟨v2,p2,s2,e2,h2,q2⟩:=yM c p1 s1 8 h1;obtain ⟨l,p3,s3,e3,h3,q3⟩:=ND c p2 s2 6 h2 (by omega) (by omega);obtain ⟨a,b,k,d,g,p4,s4,e4,h4⟩:=fW c p2 s2 h2;obtain ⟨a5,b5,k5,d5,g5,p5,s5,e5,h5⟩:=fW c p4 s4 h4;have hl:=q1.1;have hs:=q1.2;unfold VN nz;simp only [e1,e2,e3,e4,e5,zzal0];refine zl (P:=fun o=>gives o c (fun n:List yc=>NS n)) _ ?_ (zl (P:=fun o=>gives o c (fun n:List yc=>NS n)) _ ?_ ⟨_,_,_,rfl,h2,q1.ns (by omega) (by omega)⟩)
 ·rw [y0 (by simp only [yp,yr];omega)];refine ⟨_,_,_,rfl,h3,⟨by rw [yU];simp only [yp,yr];omega,?_⟩⟩;rw [mU];have:J8 l=(List.length l:Int):=rfl;omega
 ·rw [y0 (by simp only [yp,yr];omega)];refine ⟨_,_,_,rfl,h5,⟨by rw [yU];simp only [yp,yr];omega,?_⟩⟩;rw [show n++[[(a,b,k,d,g)],[(a5,b5,k5,d5,g5)]]=(n++[[(a,b,k,d,g)]])++[[(a5,b5,k5,d5,g5)]] by simp,mU,mU];have e1:J8 [(a,b,k,d,g)]=1:=rfl;have e2:J8 [(a5,b5,k5,d5,g5)]=1:=rfl;omega
theorem TA (q:List yf) (t:List y6) (k:y7) (h:TS t∧q.length=t.length∧1≤t.length∧t.length≤20):TS (zg q t k).2.1∧(zg q t k).1.length=(zg q t k).2.1.length∧1≤(zg q t k).2.1.length∧(zg q t k).2.1.length≤20:=by
 unfold zg;split
 ·split
  ·rename_i hj;have h1:=WU hj;exact ⟨mV hj,h1.1,h1.2.1,h1.2.2.1⟩
  ·exact h
 ·exact h
def ov (o:Option (List yf×List y6×List Int×Int×Int)) (c:List Int) (Q:List yf→List y6→Prop):Prop:= ∃ q t p s,o=some (q,t,c,p,s)∧zL c p∧Q q t
def y55 (q:List yf) (t:List y6):Prop:=TS t∧q.length=t.length∧1≤t.length∧t.length≤20
theorem y2x (c:List Int) (p s m:Int) (h:zL c p) (m0:0≤m) (m1:m≤1000):ov (QI (c,p,s,m)) c y55:=by
 obtain ⟨v1,p1,s1,e1,h1,q1⟩:=yM c p s (m+1) h;have b1:=q1.2 (by omega);have z0:y55 [0] [[]]:=⟨⟨by simp,fun n hn=>by rw [aI.1 hn];exact ⟨by simp,by simp [Yh]⟩⟩,rfl,by simp,by simp⟩
 unfold QI iI kA nz;simp only [zzal0]
 try simp only []
 rw [show Go.IntKind.wrap .i64 (m+1)=m+1 from zb (by omega) (by omega),e1];simp only [zzal0];refine Yo (step:=vr _) (fun u:vq=>u.1.toNat) (fun u=> ∃ k q t p s,u=(k,c,p,s,q,t)∧zL c p∧0≤k∧k≤1000∧y55 q t) (fun _ (res:Option (List yf×List y6×List Int×Int×Int))=>ov res c y55) ?_ (v1,c,p1,s1,[0],[[]]) ⟨v1,_,_,p1,s1,rfl,h1,q1.1,by omega,z0⟩ (by simp only;omega);rintro again _ ⟨k,q,t,p,s,rfl,hc,k0,k1,hT⟩ hag;unfold vr nz;simp only [yl,ym];by_cases hk:k>0
 ·obtain ⟨a,b,kk,d,g,p2,s2,e2,h2⟩:=yjN c p s hc;have hw:Go.IntKind.wrap .i64 (k - 1)=k - 1:=zb (by omega) (by omega);have hq:=hT.1.tq (q:=q) (by have:=hT.2.1;have:=hT.2.2.2;omega);simp only [y0 hk,e2,zzal0,Ji q t a b kk d g hq.T hq.Q hq.q,hw];exact hag _ ⟨_,_,_,_,_,rfl,h2,by omega,by omega,TA q t _ hT⟩ (by simp only;omega)
 ·simp only [y9 hk];exact ⟨_,_,_,_,rfl,hc,hT⟩
theorem LV (c:List Int) (p s m:Int) (h:zL c p) (m0:0≤m) (m1:m≤1000):ov (ck (c,p,s,m)) c TQ:=by
 obtain ⟨q,t,p1,s1,e1,h1,q1⟩:=y2x c p s m h m0 m1;obtain ⟨v2,p2,s2,e2,h2,q2⟩:=yM c p1 s1 12 h1;obtain ⟨v3,p3,s3,e3,h3,q3⟩:=yM c p2 s2 (q.length:Int) h2;obtain ⟨v4,p4,s4,e4,h4,q4⟩:=Zn c p3 s3 [0,-1,1,300] (by simp) (by simp) h3;obtain ⟨n5,p5,s5,e5,h5,q5⟩:=uh c p2 s2 h2;obtain ⟨v6,p6,s6,e6,h6,q6⟩:=yM c p2 s2 (t.length:Int) h2;obtain ⟨n7,p7,s7,e7,h7,q7⟩:=uh c p6 s6 h6;obtain ⟨hT,hql,t1,t2⟩:=q1;have b3:=q3.2 (by omega);have b6:=q6.2 (by omega);unfold ck nz;simp only [e1,e2,e3,e4,e5,e6,e7,zzal0];refine zl (P:=fun o=>ov o c TQ) _ ?_ (zl (P:=fun o=>ov o c TQ) _ ?_ (zl (P:=fun o=>ov o c TQ) _ ?_ (zl (P:=fun o=>ov o c TQ) _ ?_ ?_)))
 ·rw [y0 q3.1,y0 b3];exact ⟨_,_,_,_,rfl,h4,hT.tq (by rw [Yt];omega)⟩
 ·rw [y0 (by simp only [yp,yr];omega)];refine ⟨_,_,_,_,rfl,h5,TS.tq ⟨by rw [yU];simp only [yp,yr];omega,fun n hn=> ?_⟩ (by omega)⟩;rcases zB.1 hn with hn|hn
  ·exact hT.node n hn
  ·rw [aI.1 hn];exact q5
 ·rw [y0 q6.1,y0 b6];refine ⟨_,_,_,_,rfl,h7,TS.tq ⟨by rw [Yt];omega,fun n hn=> ?_⟩ (by omega)⟩;rcases Vo hn with hn|rfl
  ·exact hT.node n hn
  ·exact q7
 ·exact ⟨_,_,_,_,rfl,h2,TS.tq ⟨by simp,fun n hn=>by cases hn⟩ (by simp)⟩
 ·exact ⟨_,_,_,_,rfl,h2,hT.tq (by omega)⟩
theorem xH (c:List Int) (p s n:Int) (h:zL c p):gives (Zd (c,p,s,n)) c (fun _=>True):=by obtain ⟨v,p1,s1,e1,h1,q1⟩:=yM c p s n h;unfold Zd nz;rw [e1];exact ⟨_,_,_,rfl,h1,trivial⟩
abbrev AL:Type:=List yb×List Int×Int×Int
theorem y2y (c:List Int) (p s:Int) (h:zL c p):gives (QL (c,p,s)) c (fun l:List yb=>l.length≤8):=by
 obtain ⟨v1,p1,s1,e1,h1,q1⟩:=yM c p s 8 h;have b1:=q1.2 (by omega);unfold QL iL nz;rw [e1];simp only [zzal0];refine Yo (step:=vx _) (fun u:vw=>u.1.toNat) (fun u=> ∃ k l p s,u=(k,c,p,s,l)∧zL c p∧0≤k∧(List.length l:Int)+k≤8) (fun _ (res:Option AL)=>gives res c (fun l:List yb=>l.length≤8)) ?_ (v1,c,p1,s1,[]) ⟨v1,[],p1,s1,rfl,h1,q1.1,by simp;omega⟩ (by simp only;omega);rintro again _ ⟨k,l,p,s,rfl,hc,hk,hl⟩ hag;unfold vx nz;simp only [yl,ym];by_cases hk2:k>0
 ·have hw:Go.IntKind.wrap .i64 (k - 1)=k - 1:=zb (by omega) (by omega);have step: ∀ (p s id fr:Int),zL c p→gives (Option.bind (Zc (l,id,fr)) fun r=>again (k - 1,c,p,s,r.1)) c (fun l:List yb=>l.length≤8):=fun p s id fr hp=>by
   obtain ⟨l',b,e2,h2⟩:=mY l id fr (by omega);rw [e2];exact hag (k - 1,c,p,s,l') ⟨k - 1,l',p,s,rfl,hp,by omega,by omega⟩ (by simp only;omega)
  obtain ⟨v2,p2,s2,e2,h2,_⟩:=xH c p s 4 hc;obtain ⟨v3,p3,s3,e3,h3,q3⟩:=yM c p2 s2 (l.length:Int) h2;obtain ⟨v4,p4,s4,e4,h4,_⟩:=yM c p3 s3 8 h3;obtain ⟨v6,p6,s6,e6,h6,_⟩:=yM c p2 s2 8 h2;obtain ⟨v8,p8,s8,e8,h8,_⟩:=yM c p s 8 hc;simp only [y0 hk2,hw,e2,e3,e6,e8,zzal0];split
  ·rename_i hlen;split
   ·rw [y0 q3.1,y0 (q3.2 hlen),e4];exact step _ _ _ _ h4
   ·exact step _ _ _ _ h6
  ·exact step _ _ _ _ h8
 ·simp only [y9 hk2];exact ⟨_,_,_,rfl,hc,by simp only;omega⟩
theorem LW (c:List Int) (p s:Int) (h:zL c p):gives (cm (c,p,s)) c (fun l:List yb=>l.length≤100):=by
 obtain ⟨l,p1,s1,e1,h1,q1⟩:=y2y c p s h;obtain ⟨v2,p2,s2,e2,h2,q2⟩:=yM c p1 s1 8 h1;obtain ⟨v3,p3,s3,e3,h3,q3⟩:=Zn c p2 s2 [0,3,60,61] (by simp) (by simp) h2;obtain ⟨v4,p4,s4,e4,h4,q4⟩:=Zn c p3 s3 [0,1,9,-1] (by simp) (by simp) h3;obtain ⟨v5,p5,s5,e5,h5,q5⟩:=Zn c p2 s2 [1,2,3] (by simp) (by simp) h2;unfold cm nz;simp only [e1,e2,e3,e4,e5,zzal0];refine zl (P:=fun o=>gives o c (fun l:List yb=>l.length≤100)) _ ?_ (zl (P:=fun o=>gives o c (fun l:List yb=>l.length≤100)) _ (ZZ (P:=fun o=>gives o c (fun l:List yb=>l.length≤100)) _ (fun hh=> ?_) fun _=>⟨_,_,_,rfl,h2,by omega⟩) (zl (P:=fun o=>gives o c (fun l:List yb=>l.length≤100)) _ ?_ ⟨_,_,_,rfl,h2,by omega⟩))
 ·rw [y0 (by simp only [yp,yr];omega)];exact ⟨_,_,_,rfl,h4,by simp only [yU,yp,yr];omega⟩
 ·have hh:=of_decide_eq_true hh;rw [y0 (yP _),y0 (show (0:Int)<((List.length l:Nat):Int) by omega)];exact ⟨_,_,_,rfl,h5,by simp only [Yt];omega⟩
 ·unfold iM;refine Yo (step:=vz _) (fun u:vy=>(14 - u.1).toNat) (fun u=> ∃ k l p s,u=(k,c,p,s,l)∧zL c p∧0≤k∧k≤14∧(List.length l:Int)≤8+k) (fun _ (res:Option AL)=>gives res c (fun l:List yb=>l.length≤100)) ?_ (0,c,p2,s2,l) ⟨0,l,p2,s2,rfl,h2,yP _,by omega,by omega⟩ (by simp only;omega);rintro again _ ⟨k,l,p,s,rfl,hc,k0,k1,hl⟩ hag;unfold vz nz;simp only [yl,ym];by_cases hk2:k<14
  ·have hw:Go.IntKind.wrap .i64 (k+1)=k+1:=zb (by omega) (by omega);simp only [y0 hk2,hw,yp,yr];rw [y0 (by omega)];exact hag _ ⟨_,_,_,_,rfl,hc,by omega,by omega,by simp only [yU,yp,yr];omega⟩ (by simp only;omega)
  ·simp only [y9 hk2];exact ⟨_,_,_,rfl,hc,by simp only;omega⟩
abbrev CL:Type:=List ya×List Int×Int×Int
theorem TB (c:List Int) (p s:Int) (h:zL c p):gives (QM (c,p,s)) c (fun l:List ya=>l.length=24):=by
 obtain ⟨v1,p1,s1,e1,h1,q1⟩:=yM c p s 30 h;have b1:=q1.2 (by omega);unfold QM iN Wt nz;rw [y0 (by omega),y0 (by omega),y0 (by decide)];simp only [zzal0];rw [e1];simp only [zzal0];refine Yo (step:=vD _) (fun u:vC=>u.1.toNat) (fun u=> ∃ k l p s,u=(k,c,p,s,l)∧zL c p∧0≤k∧k≤30∧List.length l=24) (fun _ (res:Option CL)=>gives res c (fun l:List ya=>l.length=24)) ?_ (v1,c,p1,s1,List.replicate (Int.toNat (24:Int)) jo) ⟨v1,_,p1,s1,rfl,h1,q1.1,by omega,by simp⟩ (by simp only;omega);rintro again _ ⟨k,l,p,s,rfl,hc,k0,k1,hl⟩ hag;unfold vD nz;simp only [yl,ym];by_cases hk2:k>0
 ·have hw:Go.IntKind.wrap .i64 (k - 1)=k - 1:=zb (by omega) (by omega);obtain ⟨v2,p2,s2,e2,h2,_⟩:=xH c p s 3 hc;obtain ⟨v3,p3,s3,e3,h3,q3⟩:=yM c p2 s2 6 h2;obtain ⟨v4,p4,s4,e4,h4,q4⟩:=Zn c p2 s2 [0,5,65535] (by simp) (by simp) h2;obtain ⟨l',i,b,e5,h5,_⟩:=mn l v4 (by omega);simp only [y0 hk2,hw,e2,e3,e4,e5,zzal0,Kw l v3 (by omega)];split
  ·exact hag _ ⟨_,_,_,_,rfl,h3,by omega,by omega,by rw [mX];exact hl⟩ (by simp only;omega)
  ·exact hag _ ⟨_,_,_,_,rfl,h4,by omega,by omega,by rw [h5];exact hl⟩ (by simp only;omega)
 ·simp only [y9 hk2];exact ⟨_,_,_,rfl,hc,hl⟩
theorem FP (c:List Int) (p s:Int) (h:zL c p):gives (cn (c,p,s)) c (fun l:List ya=>l.length≤24):=by
 obtain ⟨l,p1,s1,e1,h1,q1⟩:=TB c p s h;obtain ⟨v2,p2,s2,e2,h2,q2⟩:=yM c p1 s1 10 h1;obtain ⟨v3,p3,s3,e3,h3,q3⟩:=yM c p2 s2 (l.length:Int) h2;obtain ⟨v4,p4,s4,e4,h4,q4⟩:=Zn c p3 s3 [-1,999,1000] (by simp) (by simp) h3;obtain ⟨v5,p5,s5,e5,h5,q5⟩:=Zn c p3 s3 [-1,5,65536] (by simp) (by simp) h3;have b3:=q3.2 (by omega);unfold cn nz;simp only [e1,e2,e3,e4,e5,zzal0];refine zl (P:=fun o=>gives o c (fun l:List ya=>l.length≤24)) _ ?_ (zl (P:=fun o=>gives o c (fun l:List ya=>l.length≤24)) _ ?_ (zl (P:=fun o=>gives o c (fun l:List ya=>l.length≤24)) _ ?_ (zl (P:=fun o=>gives o c (fun l:List ya=>l.length≤24)) _ ?_ ⟨_,_,_,rfl,h2,by omega⟩)))
 ·rw [y0 (by omega),y0 (by omega),y0 (by omega)];exact ⟨_,_,_,rfl,h2,by simp only [wU,Za];omega⟩
 ·rw [y0 q3.1,y0 b3];exact ⟨_,_,_,rfl,h4,by simp only [Yt];omega⟩
 ·rw [y0 q3.1,y0 b3];exact ⟨_,_,_,rfl,h5,by simp only [Yt];omega⟩
 ·rw [y0 (by omega),y0 (by omega)];exact ⟨_,_,_,rfl,h2,by simp only [Yt];omega⟩
def Qu (o:Option (List yf×List y6×List yb×List ya×List yj×Int×List Int×Int×Int)) (c:List Int) (Q:List yf→List y6→List yb→List ya→List yj→Prop):Prop:= ∃ q t l cs vs z p s,o=some (q,t,l,cs,vs,z,c,p,s)∧zL c p∧Q q t l cs vs
theorem Tn0:Tn [0] [[]] [] (List.replicate (Int.toNat (24:Int)) jo) []:=by
 have hT:TS [[]]:=⟨by simp,fun n hn=>by rw [aI.1 hn];exact ⟨by simp,by simp [Yh]⟩⟩
 have hN: ∀ v∈([]:List yj),ByteArray.size v.1≤60:=fun v hv=>nomatch hv;exact ⟨by simp,hT,by simp,by simp,by simp,hN,rfl,by simp⟩
theorem TC (c:List Int) (p s m:Int) (h:zL c p) (m0:0≤m) (m1:m≤1000):Qu (VM (c,p,s,m)) c Tn:=by
 obtain ⟨v1,p1,s1,e1,h1,q1⟩:=yM c p s (m+1) h;have b1:=q1.2 (by omega);unfold VM fI VL kA Wt nz;rw [y0 (by omega),y0 (by omega),y0 (by decide)];simp only [zzal0];rw [show Go.IntKind.wrap .i64 (m+1)=m+1 from zb (by omega) (by omega),e1];simp only [zzal0];refine Yo (step:=ws _ _) (fun u:K5=>match u with| .inl u=>u.1.toNat| .inr u=>u.1.toNat) (fun u=>match u with| .inl u=> ∃ k y q t l cs vs z p s,u=(k,c,p,s,y,z,q,t,l,cs,vs)∧zL c p∧0≤k∧k≤1000∧Tn q t l cs vs| .inr u=> ∃ k y q t l cs vs z p s,u=(k,c,p,s,y,q,t,l,z,cs,vs)∧zL c p∧0≤k∧k≤1000∧Tn q t l cs vs) (fun _ (res:Option (List yf×List y6×List yb×List ya×List yj×Int×List Int×Int×Int))=>Qu res c Tn) ?_ _ ⟨v1,0,_,_,_,_,_,1,p1,s1,rfl,h1,q1.1,by omega,Tn0⟩ (by simp only;omega);intro again u hu hag;have step: ∀ (k y:Int) q t l cs vs (z p s:Int),zL c p→0≤k→k≤1000→Tn q t l cs vs→k>0→(∀ k' q' t' l' cs' vs' z' p' s',zL c p'→0≤k'→k'<k→Tn q' t' l' cs' vs'→Qu (again (Sum.inr (k',c,p',s',y,q',t',l',z',cs',vs'))) c Tn)→Qu (Option.bind (jV (c,p,s)) fun r3=>Option.bind (W0 (q,t,l,cs,vs,z,r3.1,r3.2.1,r3.2.2.1,r3.2.2.2.1,r3.2.2.2.2.1)) fun r4=>again (Sum.inr ((Go.IntKind.wrap .i64 (k - (1:Int))),r3.2.2.2.2.2.1,r3.2.2.2.2.2.2.1,r3.2.2.2.2.2.2.2,y,r4.1,r4.2.1,r4.2.2.1,r4.2.2.2.2.2.1,r4.2.2.2.1,r4.2.2.2.2.1))) c Tn:=by
  intro k y q t l cs vs z p s hc k0 k1 hT hk y2w;obtain ⟨kd,n,m,a,b,p2,s2,e2,h2,hn,hm⟩:=ybr c p s hc;obtain ⟨q',t',l',cs',vs',z',cc,e3,h3⟩:=LQ z hT.sp kd n m a b hn hm;have hw:Go.IntKind.wrap .i64 (k - 1)=k - 1:=zb (by omega) (by omega);simp only [e2,e3,zzal0,hw];refine y2w _ _ _ _ _ _ _ _ _ h2 (by omega) (by omega) ?_;rcases h3 with h3|h3
  ·exact h3
  ·simp only [jI] at h3;obtain ⟨rfl,rfl,rfl,rfl,rfl,rfl⟩:=h3;exact hT
 cases u with
 |inl u=>
  obtain ⟨k,y,q,t,l,cs,vs,z,p,s,rfl,hc,k0,k1,hT⟩:=hu;unfold ws nz;simp only [yl,ym];by_cases hk:k>0
  ·simp only [y0 hk];exact step k y q t l cs vs z p s hc k0 k1 hT hk fun k' q' t' l' cs' vs' z' p' s' g1 g2 g3 g4=>hag _ ⟨_,_,_,_,_,_,_,_,_,_,rfl,g1,g2,by omega,g4⟩ (by simp only;omega)
  ·simp only [y9 hk];exact ⟨_,_,_,_,_,_,_,_,rfl,hc,hT⟩
 |inr u=>
  obtain ⟨k,y,q,t,l,cs,vs,z,p,s,rfl,hc,k0,k1,hT⟩:=hu;unfold ws nz;simp only [yl,ym];by_cases hk:k>0
  ·simp only [y0 hk];exact step k y q t l cs vs z p s hc k0 k1 hT hk fun k' q' t' l' cs' vs' z' p' s' g1 g2 g3 g4=>hag _ ⟨_,_,_,_,_,_,_,_,_,_,rfl,g1,g2,by omega,g4⟩ (by simp only;omega)
  ·simp only [y9 hk];exact ⟨_,_,_,_,_,_,_,_,rfl,hc,hT⟩
theorem FQ (c:List Int) (p s m:Int) (h:zL c p) (m0:0≤m) (m1:m≤1000):Qu (QN (c,p,s,m)) c SP:=by
 obtain ⟨q,t,l,cs,vs,z,p1,s1,e1,h1,hT⟩:=TC c p s m h m0 m1;obtain ⟨v2,p2,s2,e2,h2,_⟩:=yM c p1 s1 20 h1;obtain ⟨q3,t3,p3,s3,e3,h3,hq3⟩:=LV c p2 s2 6 h2 (by omega) (by omega);obtain ⟨l4,p4,s4,e4,h4,hl4⟩:=LW c p2 s2 h2;obtain ⟨c5,p5,s5,e5,h5,hc5⟩:=FP c p2 s2 h2;obtain ⟨v6,p6,s6,e6,h6,hv6⟩:=NA c p2 s2 [{data:= #[97]},{data:= #[122,122]},{data:= #[65]}] (by simp) (by simp) (by decide) h2;obtain ⟨v7,p7,s7,e7,h7,_⟩:=yM c p6 s6 4 h6;obtain ⟨v8,p8,s8,e8,h8,_⟩:=Zn c p7 s7 [0,1,13] (by simp) (by simp) h7;obtain ⟨v9,p9,s9,e9,h9,_⟩:=Zn c p2 s2 [0,1,60,61,62] (by simp) (by simp) h2;obtain ⟨vA,pA,sA,eA,hA,qA⟩:=yM c p2 s2 (cs.length:Int) h2;obtain ⟨vB,pB,sB,eB,hB,_⟩:=yM c p2 s2 6 h2;have hS:=hT.sp;have hcl:=hT.cl;have hvl:=hT.vl;have bA:=qA.2 (by omega);unfold QN nz;simp only [e1,e2,e3,e4,e5,e6,e7,e8,e9,eA,eB,zzal0];refine zl (P:=fun o=>Qu o c SP) _ ?_ (zl (P:=fun o=>Qu o c SP) _ ?_ (zl (P:=fun o=>Qu o c SP) _ ?_ (zl (P:=fun o=>Qu o c SP) _ ?_ (zl (P:=fun o=>Qu o c SP) _ ?_ (zl (P:=fun o=>Qu o c SP) _ ?_ (zl (P:=fun o=>Qu o c SP) _ (ZZ (P:=fun o=>Qu o c SP) _ (fun hh=> ?_) fun _=> ?_) ?_))))))
 ·exact ⟨_,_,_,_,_,_,_,_,rfl,h3,hq3.sp hS hS.S.2.2.2.1 hS.S.2.2.2.2.1⟩
 ·exact ⟨_,_,_,_,_,_,_,_,rfl,h4,hS.tq.sp hS (by omega) hS.S.2.2.2.2.1⟩
 ·exact ⟨_,_,_,_,_,_,_,_,rfl,h5,hS.tq.sp hS hS.S.2.2.2.1 (by omega)⟩
 ·rw [y0 (by simp only [yp,yr];omega)];refine ⟨_,_,_,_,_,_,_,_,rfl,h8,SP.of hS.tq hS.S.2.2.2.1 hS.S.2.2.2.2.1 (by simp only [yU,yp,yr];omega) fun v hv=> ?_⟩;rcases zB.1 hv with hv|hv
  ·exact hS.N v hv
  ·rw [aI.1 hv];exact eL hv6
 ·exact ⟨_,_,_,_,_,_,_,_,rfl,h9,hS⟩
 ·rw [y0 qA.1,y0 bA];exact ⟨_,_,_,_,_,_,_,_,rfl,hA,hS.tq.sp hS hS.S.2.2.2.1 (by rw [Yt];omega)⟩
 ·have hh:=of_decide_eq_true hh;rw [y0 (yP _),y0 (show (0:Int)<((List.length vs:Nat):Int) by omega)];refine ⟨_,_,_,_,_,_,_,_,rfl,hB,SP.of hS.tq hS.S.2.2.2.1 hS.S.2.2.2.2.1 (by rw [Yt];omega) fun v hv=> ?_⟩;rcases Vo hv with hv|rfl
  ·exact hS.N v hv
  ·exact hS.N (yC vs 0) (zz w9 vs 0 (yP _) (by omega))
 ·exact ⟨_,_,_,_,_,_,_,_,rfl,h2,hS⟩
 ·exact ⟨_,_,_,_,_,_,_,_,rfl,h2,hS⟩
theorem RY (x:List Int) (m:Int) (hx:x.length≤1099511627776) (hm:3≤m): ∃ n,KH (x,m)=some n∧0≤n∧n≤m:=by
 unfold KH nz;have hd:Int.tdiv ((List.length x:Nat):Int) 12=((List.length x:Nat):Int) / 12:=Int.tdiv_eq_ediv_of_nonneg (by omega);simp only [hd];rw [show Go.IntKind.wrap .i64 (((List.length x:Nat):Int) / 12)=((List.length x:Nat):Int) / 12 from zb (by omega) (by omega),show Go.IntKind.wrap .i64 (3+((List.length x:Nat):Int) / 12)=3+((List.length x:Nat):Int) / 12 from zb (by omega) (by omega)];by_cases h:3+((List.length x:Nat):Int) / 12>m
 ·rw [yG h];exact ⟨_,rfl,by omega,yP _⟩
 ·rw [yX h];exact ⟨_,rfl,by omega,by omega⟩
def rJ (o:Option (List yf×List y6×List yb×List ya×List yj×Int)):Prop:= ∃ q t l cs vs z,o=some (q,t,l,cs,vs,z)∧SP q t l cs vs
theorem TD (x:List Int) (hx:x.length≤1099511627776):rJ (VO x):=by
 obtain ⟨s0,e0⟩:=FA x hx;obtain ⟨m,e1,m0,m1⟩:=RY x 24 hx (by omega);obtain ⟨q,t,l,cs,vs,z,p3,s3,e3,h3,hS⟩:=FQ x 0 s0 (6+m) (ymO x hx) (by omega) (by omega);obtain ⟨v4,p4,s4,e4,h4,q4⟩:=yM x p3 s3 3 h3;have b4:=q4.2 (by omega);unfold VO fJ nz;simp only [e0,e1,zzal0];rw [show Go.IntKind.wrap .i64 (6+m)=6+m from zb (by omega) (by omega)];simp only [e3,e4,zzal0];refine Yo (step:=wu _ _) (fun u:K8=>match u with| .inl u=>u.1.toNat| .inr u=>u.1.toNat) (fun u=>match u with| .inl u=> ∃ k y q t l cs vs z p s,u=(k,y,x,p,s,q,t,l,cs,z,vs)∧zL x p∧0≤k∧k≤1000∧SP q t l cs vs| .inr u=> ∃ k y q t l cs vs z p s,u=(k,y,x,p,s,q,t,l,z,cs,vs)∧zL x p∧0≤k∧k≤1000∧SP q t l cs vs) (fun _ (res:Option (List yf×List y6×List yb×List ya×List yj×Int))=>rJ res) ?_ _ ⟨v4,0,_,_,_,_,_,z,p4,s4,rfl,h4,q4.1,by omega,hS⟩ (by simp only;omega);intro again u hu hag;have step: ∀ (k y:Int) q t l cs vs (z p s:Int),zL x p→0≤k→k≤1000→SP q t l cs vs→k>0→(∀ k' q' t' l' cs' vs' z' p' s',zL x p'→0≤k'→k'<k→SP q' t' l' cs' vs'→rJ (again (Sum.inr (k',y,x,p',s',q',t',l',z',cs',vs'))))→rJ (Option.bind (YZ (x,p,s)) fun r5=>Option.bind (wQ (q,t,l,cs,vs,z,r5.1)) fun r6=>again (Sum.inr ((Go.IntKind.wrap .i64 (k - (1:Int))),y,r5.2.1,r5.2.2.1,r5.2.2.2,r6.1,r6.2.1,r6.2.2.1,r6.2.2.2.2.2.1,r6.2.2.2.1,r6.2.2.2.2.1))):=by
  intro k y q t l cs vs z p s hc k0 k1 hS hk y2w;obtain ⟨n,p2,s2,e2,h2,hn⟩:=RV x p s hc;obtain ⟨q',t',l',cs',vs',z',cc,e3,h3⟩:=RT z hS n hn;have hw:Go.IntKind.wrap .i64 (k - 1)=k - 1:=zb (by omega) (by omega);simp only [e2,e3,zzal0,hw];refine y2w _ _ _ _ _ _ _ _ _ h2 (by omega) (by omega) ?_;rcases h3 with h3|h3
  ·exact (eJ h3).sp
  ·simp only [jI] at h3;obtain ⟨rfl,rfl,rfl,rfl,rfl,rfl⟩:=h3;exact hS
 cases u with
 |inl u=>
  obtain ⟨k,y,q,t,l,cs,vs,z,p,s,rfl,hc,k0,k1,hS⟩:=hu;unfold wu nz;simp only [yl,ym];by_cases hk:k>0
  ·simp only [y0 hk];exact step k y q t l cs vs z p s hc k0 k1 hS hk fun k' q' t' l' cs' vs' z' p' s' g1 g2 g3 g4=>hag _ ⟨_,_,_,_,_,_,_,_,_,_,rfl,g1,g2,by omega,g4⟩ (by simp only;omega)
  ·simp only [y9 hk];exact ⟨_,_,_,_,_,_,rfl,hS⟩
 |inr u=>
  obtain ⟨k,y,q,t,l,cs,vs,z,p,s,rfl,hc,k0,k1,hS⟩:=hu;unfold wu nz;simp only [yl,ym];by_cases hk:k>0
  ·simp only [y0 hk];exact step k y q t l cs vs z p s hc k0 k1 hS hk fun k' q' t' l' cs' vs' z' p' s' g1 g2 g3 g4=>hag _ ⟨_,_,_,_,_,_,_,_,_,_,rfl,g1,g2,by omega,g4⟩ (by simp only;omega)
  ·simp only [y9 hk];exact ⟨_,_,_,_,_,_,rfl,hS⟩
def Zk:List y8:=List.replicate 60 []
def y2z:List ya:=List.replicate 24 (0,false,0)
def y2A:List y6:=[([]:List yc)]
theorem Cc (i:Nat):Zk.getD i lS=[]:=by unfold Zk;rw [Zr,xM];split<;>rfl
theorem dK:ZD 60=some (Zk,[],-1,false):=by
 unfold ZD bK nz;simp only [zK,zzal0];refine (qJ (step:=YH _ _) lS Zk (fun i=>Sum.inl (60,i,0,false,-1,false)) (fun i o=>Sum.inr (60,i,0,false,-1,false,o)) (some ([],[],-1,false)) (fun o=>some (o,[],-1,false)) (by decide) ?_ ?_ ?_ ?_).trans rfl
 ·intro again i h0 h1;have h1':i<60:=h1;have hw:Go.IntKind.wrap .i64 (i+1)=i+1:=zb (by omega) (by omega);simp only [nz,YH,yl,ym,h1',yo,hw,Cc];rw [y0 (by decide)]
 ·intro again i o h0 h1 h2;have h1':i<60:=h1;have hw:Go.IntKind.wrap .i64 (i+1)=i+1:=zb (by omega) (by omega);simp only [nz,YH,yl,ym,h1',yo,hw,Cc];have h60:List.length Zk=60:=by decide
  rw [y0 (by simp only [yp,yr];omega)]
 ·intro again i hi;have h1': ¬ i<60:=hi;simp only [nz,YH,yl,ym,y9 h1']
 ·intro again i o hi;have h1': ¬ i<60:=hi;simp only [nz,YH,yl,ym,y9 h1']
theorem Cd:QA 60=some (Zk,[],-1,false):=by unfold QA nz;simp only [Yq,zzal0];rfl
def Mh (s:List y8) (c:List yw):Prop:=(∀ a∈s,isBytes a)∧ ∀ w∈c,isBytes w.2
theorem y56 {p:List Int} (h:isBytes p) (i:Int):isBytes (KB p i):=fun x hx=>h x (lr (xO hx))
theorem NE {s:List y8} {t:List yw×Int×Bool} {n:Int} {p:List Int} (h:Mh s t.1) (hp:isBytes p):Mh s (Fp s t n p).1:=by
 unfold Fp;split
 ·exact h
 ·split
  ·exact h
  ·split
   ·exact h
   ·split
    ·exact h
    ·split
     ·exact h
     ·exact ⟨h.1,fun w hw=>(zB.1 hw).elim (h.2 w) fun e=>by rw [aI.1 e];exact hp⟩
theorem FR {s:List y8} {side:Int} {p:List Int} (hp:isBytes p): ∀ (m:Nat) (i:Int) (t:List yw×Int×Bool),Mh s t.1→Mh s (qS s side p m i t).1
 |0,_,_,h=>h
 |m+1,i,t,h=>by
  rw [qS];split
  ·exact FR hp m (i+1) _ (NE h (y56 hp i))
  ·exact h
theorem FT {s:List y8} {c:List yw} {z:Int} {b:Bool} (h:Mh s c):Mh (N7 s c z b).1 (N7 s c z b).2.1:=by
 unfold N7;split
 ·exact h
 ·split
  ·exact h
  ·exact ⟨(rn isBytes c s h.1 h.2).1,fun w hw=>by cases hw⟩
theorem y57 (g m:Int) (p:List Int):isBytes (CJ g m p):=by
 unfold CJ;split
 ·exact yS (ml _ _ _ _ _) (ol _)
 ·exact gZ
theorem ybs {s:List y8} {c:List yw} {z:Int} (h:Kt s c z) (hb:Mh s c):dH s c:=
 ⟨fun a ha=>⟨hb.1 a ha,YI (h.1 a ha) (by decide)⟩,fun w hw=>⟨hb.2 w hw,YI (h.2.1 w hw).2.2 (by decide)⟩,h.2.2.2.1,YI h.2.2.2.2.1 (by decide)⟩
theorem i7 {s:List y8} {c:List yw} (h:dH s c):dv s c:=by
 obtain ⟨h1,h2,h3,h4⟩:=h;have e1:=rk N3 1000 s fun a ha=>by have:=(h1 a ha).2;show (List.length a:Int)≤1000;omega
 have e2:=rk Fo 1000 c fun w hw=>by have:=(h2 w hw).2;show (List.length w.2:Int)≤1000;omega
 exact ⟨by omega,by omega,by omega,by omega⟩
theorem y58 {s:List y8} {c:List yw} {u:Int} {b:Bool} (g m:Int) {p:List Int} (hd:Kt s c u) (hb:Mh s c) (hp:isBytes p):Kt (ckK s c u b g m p).1 (ckK s c u b g m p).2.1 (ckK s c u b g m p).2.2.1∧Mh (ckK s c u b g m p).1 (ckK s c u b g m p).2.1∧(ckK s c u b g m p).1.length=s.length:=by have h1:=y2d b (g % 2) p hd;have h2:=Nh _ h1;have h3:=y2e _ (g % 2) (CJ g m p) h2;have b1:Mh (TY s c u b (g % 2) p).1 (TY s c u b (g % 2) p).2.1:=FR hp _ _ _ (FT hb);have b2:Mh (Ti (TY s c u b (g % 2) p)).1 (Ti (TY s c u b (g % 2) p)).2.1:=FT b1;have b3:Mh (ckW (Ti (TY s c u b (g % 2) p)) (g % 2) (CJ g m p)).1 (ckW (Ti (TY s c u b (g % 2) p)) (g % 2) (CJ g m p)).2.1:=NE b2 (y57 _ _ _);refine ⟨Nh _ h3,FT b3,?_⟩;exact (xC _ _ _ _ h3).trans ((xC _ _ _ _ h1).trans (xC _ _ _ _ hd))
structure SI (s:List y8) (c:List yw) (u:Int) (q:List yf) (t:List y6) (l:List yb) (cs:List ya) (vs:List yj) (a n m K:Int):Prop where
 D:Kt s c u
 B:Mh s c
 L:s.length=60
 T:Tn q t l cs vs
 a0:0≤a
 a1:a≤K
 n0:0≤n
 n1:n≤K
 m0:0≤m
 m1:m≤K
def cE (o:Option ST) (K:Int):Prop:= ∃ s c u b q t l cs vs z a n m,o=some (s,c,u,b,q,t,l,cs,vs,z,a,n,m)∧SI s c u q t l cs vs a n m K
theorem yjO (o:Option ST) {K:Int} (ho:cE o K):cE (Option.bind o fun r=>some (r.1,r.2.1,r.2.2.1,r.2.2.2.1,r.2.2.2.2.1,r.2.2.2.2.2.1,r.2.2.2.2.2.2.1,r.2.2.2.2.2.2.2.1,r.2.2.2.2.2.2.2.2.1,r.2.2.2.2.2.2.2.2.2.1,r.2.2.2.2.2.2.2.2.2.2.1,r.2.2.2.2.2.2.2.2.2.2.2.1,r.2.2.2.2.2.2.2.2.2.2.2.2)) K:=by obtain ⟨s,c,u,b,q,t,l,cs,vs,z,a,n,m,e,hI⟩:=ho;rw [e];exact ⟨s,c,u,b,q,t,l,cs,vs,z,a,n,m,rfl,hI⟩
section
variable {s:List y8} {c:List yw} {u:Int} {q:List yf} {t:List y6} {l:List yb} {cs:List ya} {vs:List yj} {a n m K:Int} (h:SI s c u q t l cs vs a n m K) (b:Bool) (z:Int)
include h
theorem SI.small:Nd s c q t l cs vs:=⟨gT h.D,h.T.sp.S,h.T.sp.tq.T,h.T.sp.N⟩
theorem SI.mono {K':Int} (hK:K≤K'):SI s c u q t l cs vs a n m K':=⟨h.D,h.B,h.L,h.T,h.a0,lw h.a1 hK,h.n0,lw h.n1 hK,h.m0,lw h.m1 hK⟩
theorem y2B:cE (Yb (s,c,u,b,q,t,l,cs,vs,z,a,n,m)) K:=by rw [cy q t l cs vs z a n m s c u b h.D];exact ⟨_,_,_,_,_,_,_,_,_,_,_,_,_,rfl,Fq _ _ _ _ h.D,FT h.B,(xC _ _ _ _ h.D).trans h.L,h.T,h.a0,h.a1,h.n0,h.n1,h.m0,h.m1⟩
theorem LX (hK:K≤40000):cE (jg (s,c,u,b,q,t,l,cs,vs,z,a,n,m)) (K+1):=by
 have hp:=ud q t l cs vs z;have h0:=h.a0;have h1:=h.a1;have h2:=h.n1;have h3:=h.m1;obtain ⟨d1,d2,d3⟩:=y58 (b:=b) (a+1) m h.D h.B hp.2;rw [FC u b z a n m h.small h.D hp.1 hp.2 h0 (by omega)];split
 ·exact ⟨_,_,_,_,_,_,_,_,_,_,_,_,_,rfl,d1,d2,d3.trans h.L,h.T,by omega,by omega,h.m0,by omega,h.m0,by omega⟩
 ·exact ⟨_,_,_,_,_,_,_,_,_,_,_,_,_,rfl,d1,d2,d3.trans h.L,h.T,by omega,by omega,h.n0,by omega,h.m0,by omega⟩
theorem y2C (hK:K≤40000):cE (ZS (s,c,u,b,q,t,l,cs,vs,z,a,n,m)) (K+1):=by
 unfold ZS nz;simp only [l7 u b z a n m h.small,nH u b z a n m h.small,zK,zzal0];generalize (cx s c u&&(((s.length:Int)==60)&&(zc q t l cs vs z&&(Yn n 1 50000&&(Yn m n (IntKind.i64.wrap (n+6))&&Yn m 1 50000)))))=L;have hc:cE (jg (s,c,u,b,q,t,l,cs,vs,z,a,n,m)) (K+1):=LX h b z hK;have hs:cE (some (s,c,u,b,q,t,l,cs,vs,z,a,n,m)) (K+1):=⟨_,_,_,_,_,_,_,_,_,_,_,_,_,rfl,h.mono (by omega)⟩
 obtain ⟨s',c',u',b',q',t',l',cs',vs',z',a',n',m',e,hI⟩:=hc;rw [e];cases L<;>cases Yn a 0 49999<;>cases b<;>first|exact hs|exact ⟨_,_,_,_,_,_,_,_,_,_,_,_,_,rfl,hI⟩
end
abbrev SC:Type:=List y8×List yw×Int×Bool×List yf×List y6×List yb×List ya×List yj×Int×Int×Int×Int×Int
def i9 (o:Option SC) (K:Int):Prop:= ∃ s c u b q t l cs vs z a n m k,o=some (s,c,u,b,q,t,l,cs,vs,z,a,n,m,k)∧SI s c u q t l cs vs a n m K
section
variable {s:List y8} {c:List yw} {u:Int} {q:List yf} {t:List y6} {l:List yb} {cs:List ya} {vs:List yj} {a n m K:Int} (h:SI s c u q t l cs vs a n m K) (b:Bool) (z:Int)
include h
theorem RZ (k:Int):i9 (some (s,c,u,b,q,t,l,cs,vs,z,a,n,m,k)) (K+1):=⟨_,_,_,_,_,_,_,_,_,_,_,_,_,_,rfl,h.mono (by omega)⟩
theorem R_ (hK:K≤50000) {q':List yf} {t':List y6} {l':List yb} {cs':List ya} {vs':List yj} (z':Int) (hT:Tn q' t' l' cs' vs') (k:Int) (nm tt:ByteArray) (x y:Int) (hn:nm.size≤60) (ht:tt.size≤60) (v w:Bool):
  i9 (Option.bind (bif b then some true else some v) fun f=>Option.bind (bif f then some true else some w) fun g=>bif g then some (s,c,u,b,q,t,l,cs,vs,z,a,n,m,6) else Option.bind (WR m) fun h=>Option.bind (WS (m,k,nm,tt,x,y)) fun i=>Option.bind (zH (s,c,u,b,q,t,l,cs,vs,z,a,n,m,h,i)) fun r=>bif r.2.2.2.1 then some (r.1,r.2.1,r.2.2.1,r.2.2.2.1,r.2.2.2.2.1,r.2.2.2.2.2.1,r.2.2.2.2.2.2.1,r.2.2.2.2.2.2.2.1,r.2.2.2.2.2.2.2.2.1,r.2.2.2.2.2.2.2.2.2.1,r.2.2.2.2.2.2.2.2.2.2.1,r.2.2.2.2.2.2.2.2.2.2.2.1,r.2.2.2.2.2.2.2.2.2.2.2.2,6) else some (r.1,r.2.1,r.2.2.1,r.2.2.2.1,q',t',l',cs',vs',z',r.2.2.2.2.2.2.2.2.2.2.1,r.2.2.2.2.2.2.2.2.2.2.2.1,(Go.IntKind.wrap .i64 (r.2.2.2.2.2.2.2.2.2.2.2.2+1)),0)) (K+1):=by
 have hs:=RZ h b z 6;obtain ⟨o,eo⟩:=LS m;have h2:=h.m0;have h3:=h.m1;have hw:Go.IntKind.wrap .i64 (m+1)=m+1:=zb (by omega) (by omega);have hp:isBytes (if uf m k nm tt x y=true then y52 m k nm tt x y else []):=by
  split
  ·exact NB _ _ _ _ _ _
  ·exact gZ
 simp only [eo,C9 m k nm tt x y hn ht,zzal0];generalize (if uf m k nm tt x y=true then y52 m k nm tt x y else [])=P at hp;rw [g_ q t l cs vs z a n m s c u b o P h.D];have hd:=sX s c u b o P h.D;have hb:Mh s (Fp s (c,u,b) o P).1:=NE h.B hp;generalize Fp s (c,u,b) o P=D at hd hb;obtain ⟨d1,d2,d3⟩:=D;simp only [zzal0,qU,hw];have hl: ∀ f:Bool,i9 (bif f then some (s,c,u,b,q,t,l,cs,vs,z,a,n,m,6) else bif d3 then some (s,d1,d2,d3,q,t,l,cs,vs,z,a,n,m,6) else some (s,d1,d2,d3,q',t',l',cs',vs',z',a,n,m+1,0)) (K+1):=by
  intro f;have h0:=h.n0;have h1:=h.n1;have g0:=h.a0;have g1:=h.a1;cases f
  ·cases d3
   ·exact ⟨_,_,_,_,_,_,_,_,_,_,_,_,_,_,rfl,hd,hb,h.L,hT,g0,by omega,h0,by omega,by omega,by omega⟩
   ·exact ⟨_,_,_,_,_,_,_,_,_,_,_,_,_,_,rfl,hd,hb,h.L,h.T,g0,by omega,h0,by omega,h2,by omega⟩
  ·exact hs
 cases b<;>cases v<;>cases w<;>first|exact hl true|exact hl false
theorem y59 (hK:K≤40000) (k:Int) (nm tt:ByteArray) (x y:Int) (hn:nm.size≤60) (ht:tt.size≤60):i9 (eF (s,c,u,b,q,t,l,cs,vs,z,a,n,m,k,nm,tt,x,y)) (K+2):=by
 obtain ⟨q',t',l',cs',vs',z',cd,e,hc⟩:=LQ (z:=z) h.T.sp k nm tt x y hn ht;have hT:Tn q' t' l' cs' vs':=by
  rcases hc with hc|hc
  ·exact hc
  ·simp only [jI] at hc;obtain ⟨rfl,rfl,rfl,rfl,rfl,_⟩:=hc;exact h.T
 obtain ⟨s1,c1,u1,b1,q1,t1,l1,cs1,vs1,z1,a1,n1,m1,e1,h1⟩:=y2C h b z hK;have hs:=RZ (h.mono (K':=K+1) (by omega)) b z;have f0:=R_ (h.mono (K':=K+1) (by omega)) b z (by omega) z' hT k nm tt x y hn ht;have f1:=R_ h1 b1 z1 (by omega) z' hT k nm tt x y hn ht;rw [show K+1+1=K+2 by omega] at hs f0 f1;unfold eF nz;simp only [l7 u b z a n m h.small,BB u b z a n m h.small,cC k nm tt x y (eL hn) (eL ht),e,e1,zzal0];generalize Nc 1 s c u q t l cs vs z a n m=S;generalize Nw k nm tt x y=O;have hg: ∀ x y:Option SC,i9 x (K+2)→i9 y (K+2)→i9 (bif (cd !=(0:Int)) then some (s,c,u,b,q,t,l,cs,vs,z,a,n,m,cd) else bif (m==(Go.IntKind.wrap .i64 (n+(6:Int)))) then x else y) (K+2):=by
  intro x y hx hy;cases (cd !=(0:Int))
  ·rw [yi];cases (m==(Go.IntKind.wrap .i64 (n+(6:Int))))
   ·exact hy
   ·exact hx
  ·exact hs _
 cases S
 ·exact hs _
 ·cases b
  ·cases O
   ·exact hs _
   ·exact hg _ _ (f1 _ _) (f0 _ _)
  ·exact hs _
end
def y5a (o:Option (List Int×Int×Int×ST)) (x:List Int) (K:Int):Prop:= ∃ p sd s c u b q t l cs vs z a n m,o=some (x,p,sd,s,c,u,b,q,t,l,cs,vs,z,a,n,m)∧zL x p∧SI s c u q t l cs vs a n m K
theorem y5b {s:List y8} {c:List yw} {u:Int} {q:List yf} {t:List y6} {l:List yb} {cs:List ya} {vs:List yj} {a n m K:Int} (h:SI s c u q t l cs vs a n m K) (b:Bool) (z:Int) (x:List Int) (p sd:Int) (hc:zL x p) (hK:K≤40000):y5a (qw (x,p,sd,s,c,u,b,q,t,l,cs,vs,z,a,n,m)) x (K+2):=by
 obtain ⟨v,p1,s1,e1,h1,_⟩:=yM x p sd 8 hc;unfold qw nz;simp only [e1,zzal0];cases (v==(0:Int))
 ·rw [yi];cases (v==(1:Int))
  ·rw [yi];obtain ⟨k,nm,tt,x1,y1,p2,s2,e2,h2,hn,ht⟩:=ybr x p1 s1 h1;obtain ⟨s',c',u',b',q',t',l',cs',vs',z',a',n',m',cd,e3,hI⟩:=y59 h b z hK k nm tt x1 y1 hn ht;simp only [e2,e3,zzal0];exact ⟨_,_,_,_,_,_,_,_,_,_,_,_,_,_,_,rfl,h2,hI⟩
  ·rw [yg];cases b
   ·obtain ⟨s',c',u',b',q',t',l',cs',vs',z',a',n',m',e3,hI⟩:=LX h false z hK;simp only [Yd,yg,e3,zzal0];exact ⟨_,_,_,_,_,_,_,_,_,_,_,_,_,_,_,rfl,h1,hI.mono (by omega)⟩
   ·exact ⟨_,_,_,_,_,_,_,_,_,_,_,_,_,_,_,rfl,h1,h.mono (by omega)⟩
 ·rw [yg];obtain ⟨s',c',u',b',q',t',l',cs',vs',z',a',n',m',e3,hI⟩:=y2B h b z;simp only [e3,zzal0];exact ⟨_,_,_,_,_,_,_,_,_,_,_,_,_,_,_,rfl,h1,hI.mono (by omega)⟩
theorem Ee {a:List Int} (h:a∈Zk):a=[]:=List.eq_of_mem_replicate h
theorem rK (z:Int) (h0: -1≤z) (h1:z≤1000):Kt Zk [] z:=⟨fun a ha=>by rw [Ee ha];simp,fun w hw=>(by cases hw),by decide,by decide,by simp,h0,h1⟩
theorem S0:Mh Zk []:=⟨fun a ha=>by rw [Ee ha];exact gZ,fun w hw=>by cases hw⟩
theorem TE:cE (ab ()) 2:=by
 have hI:SI Zk [] (-1) [0] y2A [] y2z [] 0 1 1 1:=⟨rK _ (by omega) (by omega),S0,by decide,Tn0,by omega,by omega,by omega,by omega,by omega,by omega⟩
 have hk:=y2C hI false 1 (by omega);unfold ab nz;rw [dK];change cE (Option.bind (ZS (Zk,[],-1,false,[0],y2A,[],y2z,[],1,0,1,1)) _) 2;exact yjO _ hk
theorem y5c (x:List Int) (p sd most:Int) (hc:zL x p) (m0:0≤most) (m1:most≤30): ∃ s c u b q t l cs vs z a n m p' sd',qx (x,p,sd,most)=some (s,c,u,b,q,t,l,cs,vs,z,a,n,m,x,p',sd')∧zL x p'∧SI s c u q t l cs vs a n m 1000:=by
 obtain ⟨s,c,u,b,q,t,l,cs,vs,z,a,n,m,e,hI⟩:=TE;obtain ⟨v,p1,s1,e1,h1,v0,v1⟩:=yM x p sd (most+1) hc;have hv:=v1 (by omega);have hw:Go.IntKind.wrap .i64 (most+1)=most+1:=zb (by omega) (by omega);unfold qx fQ nz;simp only [e,e1,hw,zzal0];refine Yo (step:=Kg _) (fun w:Kf=>w.1.toNat) (fun w=> ∃ (k p sd:Int) (s:List y8) (c:List yw) (u:Int) (b:Bool) (q:List yf) (t:List y6) (l:List yb) (cs:List ya) (vs:List yj) (z a n m:Int),w=(k,x,p,sd,0,false,0,0,0,0,u,b,q,t,l,cs,vs,z,a,n,m,s,c)∧zL x p∧0≤k∧k≤100∧SI s c u q t l cs vs a n m (900 - 2*k))
  (fun _ res=> ∃ s c u b q t l cs vs z a n m p' sd',res=some (s,c,u,b,q,t,l,cs,vs,z,a,n,m,x,p',sd')∧zL x p'∧SI s c u q t l cs vs a n m 1000) ?_ _ ⟨v,p1,s1,s,c,u,b,q,t,l,cs,vs,z,a,n,m,rfl,h1,v0,by omega,hI.mono (by omega)⟩ (by simp only;omega)
 rintro again w ⟨k,p,sd,s,c,u,b,q,t,l,cs,vs,z,a,n,m,rfl,hc,k0,k1,hI⟩ hag;unfold Kg nz;by_cases hk:k>0
 ·obtain ⟨p2,s2,s',c',u',b',q',t',l',cs',vs',z',a',n',m',e2,h2,hI2⟩:=y5b hI b z x p sd hc (by omega);have hw:Go.IntKind.wrap .i64 (k - 1)=k - 1:=zb (by omega) (by omega);simp only [yG hk,yg,e2,zzal0,hw];exact hag _ ⟨k - 1,p2,s2,s',c',u',b',q',t',l',cs',vs',z',a',n',m',rfl,h2,by omega,by omega,hI2.mono (by omega)⟩ (by simp only;omega)
 ·simp only [yX hk,yi];exact ⟨_,_,_,_,_,_,_,_,_,_,_,_,_,_,_,rfl,hc,hI.mono (by omega)⟩
def eN (side i:Int):Int:=if Yn side 0 1=true then 8+side*24+i else -1
theorem CM (side i:Int) (h0:0≤i) (h1:i≤23):Ze (side,i)=some (eN side i):=by
 unfold Ze eN nz;simp only [zK,zi.2 ⟨h0,h1⟩,zzal0,yJ];cases h:Yn side 0 1 with
 |false=>rfl
 |true=>have hs:=zi.1 h;simp only [yJ,yi,zzal0,yo];rw [zb (n:=side*24) (by omega) (by omega),zb (n:=8+side*24) (by omega) (by omega),zb (by omega) (by omega)]
theorem nL (side i:Int) (h0:0≤i) (h1:i≤23):jw (side,i)=some (eN side i):=by
 unfold jw eN nz;simp only [Yq,zi.2 ⟨h0,h1⟩,zzal0,yJ];cases h:Yn side 0 1 with
 |false=>rfl
 |true=>have hs:=zi.1 h;simp only [yJ,yi,zzal0,yo];rw [zb (n:=side*24) (by omega) (by omega),zb (n:=8+side*24) (by omega) (by omega),zb (by omega) (by omega)]
def dL (s:List y8) (c:List yw) (z side len:Int):Nat→Int→List Int→List Int
 |0,_,o=>o
 |m+1,i,o=>if (o.length:Int)<len then dL s c z side len m (i+1) (o++Zx s c z (eN side i)) else o
theorem xI (s:List y8) (c:List yw) (z side len:Int) (h:td s c z): ∀ (m:Nat) (i:Int) (o:List Int),isBytes o→isBytes (dL s c z side len m i o)∧(dL s c z side len m i o).length≤o.length+1000*m
 |0,_,o,ho=>⟨ho,by simp [dL]⟩
 |m+1,i,o,ho=>by
  rw [dL];split
  ·have hr:=eM s c z (eN side i) h;have ih:=xI s c z side len h m (i+1) (o++Zx s c z (eN side i)) (fun x hx=>(zB.1 hx).elim (ho x) (hr.1 x));refine ⟨ih.1,?_⟩;have:=ih.2;rw [yU] at this;have:=hr.2;omega
  ·exact ⟨ho,by omega⟩
theorem y2D (s:List y8) (c:List yw) (z side len:Int) (m:Nat) (i:Int) (o:List Int) (h: ¬ (o.length:Int)<len):dL s c z side len m i o=o:=by
 cases m with
 |zero=>rfl
 |succ m=>rw [dL,y9 h]
abbrev RI:Type:=Int×List y8×List yw×Int×Bool×Int×Int×Int×Int×Int×List yn
theorem LY {R:Type} {step:(RI→Option R)→RI→Option R} (k0:Int×Int×Int×Int×Int×List yn→Option R) (s:List y8) (c:List yw) (z:Int) (b:Bool) (gen side len sum seq:Int) (h:td s c z)
  (hs: ∀ again i o,0≤i→i<24→(List.length o:Int)<len→List.length o≤100000→step again (i,s,c,z,b,gen,side,len,sum,seq,o)=again (i+1,s,c,z,b,gen,side,len,sum,seq,o++Zx s c z (eN side i)))
  (hd: ∀ again i o,¬ (i<24∧(List.length o:Int)<len)→step again (i,s,c,z,b,gen,side,len,sum,seq,o)=k0 (gen,side,len,sum,seq,o)):
  iter step FUEL (0,s,c,z,b,gen,side,len,sum,seq,[])=k0 (gen,side,len,sum,seq,dL s c z side len 24 0 []):=by
 refine Ym (fun t:RI=>24 - t.1.toNat) (fun t=>0≤t.1∧t.1≤24∧t.2.1=s∧t.2.2.1=c∧t.2.2.2.1=z∧t.2.2.2.2.1=b∧t.2.2.2.2.2.1=gen∧t.2.2.2.2.2.2.1=side∧t.2.2.2.2.2.2.2.1=len∧t.2.2.2.2.2.2.2.2.1=sum∧t.2.2.2.2.2.2.2.2.2.1=seq∧(List.length t.2.2.2.2.2.2.2.2.2.2:Int)≤1000*t.1) (fun t=>k0 (gen,side,len,sum,seq,dL s c z side len (24 - t.1.toNat) t.1 t.2.2.2.2.2.2.2.2.2.2)) ?_ (0,s,c,z,b,gen,side,len,sum,seq,[]) ⟨yP _,by simp,rfl,rfl,rfl,rfl,rfl,rfl,rfl,rfl,rfl,by simp⟩ (by simp);rintro again ⟨i,s',c',z',b',gen',rm,len',sum',seq',o⟩ ⟨i0,i1,h1,h2,h3,h4,h5,h6,h7,h8,h9,ho⟩ hag;simp only at i0 i1 h1 h2 h3 h4 h5 h6 h7 h8 h9 ho ⊢;subst h1 h2 h3 h4 h5 h6 h7 h8 h9;by_cases hi:i<24∧(List.length o:Int)<len'
 ·have hr:=eM s' c' z' (eN rm i) h;rw [hs again i o i0 hi.1 hi.2 (by omega),hag _ ⟨by simp only;omega,by simp only;omega,rfl,rfl,rfl,rfl,rfl,rfl,rfl,rfl,rfl,by
   simp only;rw [yU];omega⟩ (by simp only;omega)]
  have e1:24 - i.toNat=(24 - (i+1).toNat)+1:=by omega
  rw [e1,dL,y0 hi.2]
 ·rw [hd again i o hi];by_cases h24:i<24
  ·rw [y2D _ _ _ _ _ _ _ _ (fun hl=>hi ⟨h24,hl⟩)]
  ·rw [show 24 - i.toNat=0 by omega];rfl
noncomputable def Ce (s:List y8) (c:List yw) (z side len sum:Int):List Int×Bool:=
 if len<0 then ([],false) else if ((dL s c z side len 24 0 []).length:Int)<len then ([],false) else if crc ((dL s c z side len 24 0 []).take len.toNat)=sum then ((dL s c z side len 24 0 []).take len.toNat,true) else ([],false)
theorem y5d (s:List y8) (c:List yw) (z side len sum:Int) (h:td s c z):isBytes (Ce s c z side len sum).1∧(Ce s c z side len sum).1.length≤24000:=by
 have hk:=xI s c z side len h 24 0 [] (fun y hy=>by simp at hy);have h0:isBytes ([]:List Int):=fun y hy=>by simp at hy
 unfold Ce;split
 ·exact ⟨h0,by simp⟩
 ·split
  ·exact ⟨h0,by simp⟩
  ·split
   ·refine ⟨Wb hk.1 _,?_⟩;simp only [Za];have:=hk.2;simp only [yr] at this;omega
   ·exact ⟨h0,by simp⟩
theorem y2E {R:Type} (k0:Int×Int×Int×Int×Int×List yn→Option R) (s:List y8) (c:List yw) (z:Int) (b:Bool) (gen side len sum seq:Int) (h:td s c z):
  vX k0 (0,s,c,z,b,gen,side,len,sum,seq,[])=k0 (gen,side,len,sum,seq,dL s c z side len 24 0 []):=by
 unfold vX;refine LY (step:=jZ k0) k0 s c z b gen side len sum seq h ?_ ?_
 ·intro again i o i0 i1 hl ho;have hr:=eM s c z (eN side i) h;have hw:Go.IntKind.wrap .i64 (i+1)=i+1:=zb (by omega) (by omega);unfold jZ nz;simp only [yG i1,yG hl,yg,zzal0,CM side i i0 (by omega),dJ s c z b _ h,hw];rw [y0 (by omega)]
 ·intro again i o hi;unfold jZ nz;by_cases h24:i<24
  ·simp only [yG h24,yX (fun hl=>hi ⟨h24,hl⟩),yg,zzal0,yi]
  ·simp only [yX h24,yi,zzal0]
theorem eO (s:List y8) (c:List yw) (z:Int) (b:Bool) (gen side len sum seq:Int) (h:td s c z):Zu (s,c,z,b,gen,side,len,sum,seq)=some (Ce s c z side len sum):=by
 have hk:=xI s c z side len h 24 0 [] (fun y hy=>by simp at hy);have hlen:(dL s c z side len 24 0 []).length≤24000:=by have:=hk.2;simp only [yr] at this;omega
 unfold Zu nz;rw [y2E _ s c z b gen side len sum seq h];unfold Ce;generalize dL s c z side len 24 0 []=o at hk hlen ⊢;simp only [];by_cases hn:len<0
 ·rw [y0 hn,yG hn];rfl
 ·rw [y9 hn,yX hn];by_cases hs:(o.length:Int)<len
  ·rw [y0 hs,yG hs];rfl
  ·have hd:List.drop (Int.toNat (0:Int)) (List.take len.toNat o)=List.take len.toNat o:=rfl;have hlt:(List.take len.toNat o).length≤24000:=by
    rw [Za];omega
   rw [y9 hs,yX hs];simp only [yi,zzal0,hd,jj,yr];rw [y0 (by omega),y0 (by omega),y0 (by omega),Vf _ (Wb hk.1 _) (by omega)];simp only [zzal0];by_cases hc:crc (List.take len.toNat o)=sum
   ·rw [y0 hc,show (crc (List.take len.toNat o) !=sum)=false from by simpa using hc,yi,y0 (by omega),y0 (by omega),y0 (by omega),y0 (by omega)]
   ·rw [y9 hc,show (crc (List.take len.toNat o) !=sum)=true from by simpa using hc,yg]
theorem y2F {R:Type} (k0:Int×Int×Int×Int×Int×List yn→Option R) (s:List y8) (c:List yw) (z:Int) (b:Bool) (gen side len sum seq:Int) (h:td s c z):
  vV k0 (0,s,c,z,b,gen,side,len,sum,seq,[])=k0 (gen,side,len,sum,seq,dL s c z side len 24 0 []):=by
 unfold vV;refine LY (step:=jY k0) k0 s c z b gen side len sum seq h ?_ ?_
 ·intro again i o i0 i1 hl ho;have hr:=eM s c z (eN side i) h;have hw:Go.IntKind.wrap .i64 (i+1)=i+1:=zb (by omega) (by omega);unfold jY nz;simp only [yG i1,yG hl,yg,zzal0,nL side i i0 (by omega),qP s c z b _ h,hw];rw [y0 (by omega)]
 ·intro again i o hi;unfold jY nz;by_cases h24:i<24
  ·simp only [yG h24,yX (fun hl=>hi ⟨h24,hl⟩),yg,zzal0,yi]
  ·simp only [yX h24,yi,zzal0]
theorem qQ (s:List y8) (c:List yw) (z:Int) (b:Bool) (gen side len sum seq:Int) (h:td s c z):YN (s,c,z,b,gen,side,len,sum,seq)=some (Ce s c z side len sum):=by
 have hk:=xI s c z side len h 24 0 [] (fun y hy=>by simp at hy);have hlen:(dL s c z side len 24 0 []).length≤24000:=by have:=hk.2;simp only [yr] at this;omega
 unfold YN nz;rw [y2F _ s c z b gen side len sum seq h];unfold Ce;generalize dL s c z side len 24 0 []=o at hk hlen ⊢;simp only [Yq,zzal0];cases hin:Yn len 0 ((List.length o:Nat):Int) with
 |false=>
  have hno: ¬ (0≤len∧len≤(o.length:Int)):=fun hh=>by rw [zi.2 hh] at hin;cases hin
  by_cases hn:len<0
  ·rw [y0 hn];rfl
  ·rw [y9 hn,y0 (show ((List.length o:Nat):Int)<len by omega)];rfl
 |true=>
  have hl:=zi.1 hin;have hlt:(List.take len.toNat o).length≤24000:=by rw [Za];omega
  rw [y9 (show ¬ len<0 by omega),y9 (show ¬ (o.length:Int)<len by omega)];by_cases hc:crc (List.take len.toNat o)=sum
  ·simp only [yJ,yi,hl.1,hl.2,yo,yP,eH _ (Wb hk.1 len.toNat) (show (List.take len.toNat o).length≤1099511627776 by omega),zzal0,show (crc (List.take len.toNat o) !=sum)=false from by simpa using hc];rw [y0 hc]
  ·simp only [yJ,yi,yg,hl.1,hl.2,yo,yP,eH _ (Wb hk.1 len.toNat) (show (List.take len.toNat o).length≤1099511627776 by omega),zzal0,show (crc (List.take len.toNat o) !=sum)=true from by simpa using hc];rw [y9 hc]
abbrev Rd (A:Type):Type:=Int→Option (A×Int)
def many {A:Type} (rd:Rd A):Nat→Rd (List A)
 |0,i=>some ([],i)
 |n+1,i=>match rd i with
  |some (x,j)=>(match many rd n j with
   |some (xs,k)=>some (x::xs,k)
   |none=>none)
  |none=>none
theorem tf {A:Type} {rd:Rd A} {n:Nat} {i k:Int} {xs:List A} (h:many rd (n+1) i=some (xs,k)): ∃ x j ys,rd i=some (x,j)∧many rd n j=some (ys,k)∧xs=x::ys:=by
 unfold many at h;cases h1:rd i with
 |none=>simp [h1] at h
 |some xj=>
  obtain ⟨x,j⟩:=xj;simp only [h1] at h;cases h2:many rd n j with
  |none=>simp [h2] at h
  |some yk=>obtain ⟨ys,k'⟩:=yk;simp only [h2] at h;injection h with h;injection h with ha hb;subst hb;exact ⟨x,j,ys,rfl,h2,ha.symm⟩
theorem dM {A:Type} {rd:Rd A}: ∀ {n:Nat} {i k:Int} {xs:List A},many rd n i=some (xs,k)→xs.length=n
 |0,i,k,xs,h=>by unfold many at h;injection h with h;injection h with ha _;subst ha;rfl
 |n+1,i,k,xs,h=>by obtain ⟨x,j,ys,_,h2,rfl⟩:=tf h;rw [yp,dM h2]
section
variable (l:List Int)
def p1:Rd Int:=fun i=>if i<(l.length:Int) then some (wN l i,i+1) else none
def p2:Rd Int:=fun i=>if i+2≤(l.length:Int) then some (w2 l i,i+2) else none
def pF:Rd Bool:=fun i=>if i<(l.length:Int)∧wN l i≤1 then some (wN l i==1,i+1) else none
def pT:Rd ByteArray:=fun i=>if (bY l i).2.2=true then some ((bY l i).1,(bY l i).2.1) else none
def pA:Rd yb:=fun i=>(p1 l i).bind fun x=>(p1 l x.2).bind fun y=>some ((x.1,y.1),y.2)
def pV:Rd yj:=fun i=>(pT l i).bind fun n=>(p1 l n.2).bind fun x=>(p1 l x.2).bind fun y=>(pF l y.2).bind fun z=>some ((n.1,x.1,y.1,z.1),z.2)
def pC:Rd ya:=fun i=>(p2 l i).bind fun x=>(pF l x.2).bind fun y=>(p2 l y.2).bind fun z=>some ((x.1,y.1,z.1),z.2)
def LZ (i:Int):y7:=(wN l i,wN l (i+1),wN l (i+2),wN l (i+3),w2 l (i+4))
def pK:Rd y7:=fun i=>if i+6≤(l.length:Int)∧Yz (LZ l i)=true then some (LZ l i,i+6) else none
def pS:Rd yc:=fun i=>(p1 l i).bind fun n=>many (pK l) n.1.toNat n.2
def pNd:Rd y6:=fun i=>(p1 l i).bind fun n=>many (pS l) n.1.toNat n.2
def pL:Rd (Int×y6):=fun i=>(p2 l i).bind fun x=>(pNd l x.2).bind fun y=>some ((x.1,y.1),y.2)
abbrev PQ:Type:=Int×List yb×List yj×List ya×List (Int×y6)
def pP:Option (PQ×Int):=
 (p2 l 0).bind fun z=>(p1 l z.2).bind fun n1=>(many (pA l) n1.1.toNat n1.2).bind fun a=>(p1 l a.2).bind fun n2=>(many (pV l) n2.1.toNat n2.2).bind fun v=>(many (pC l) 24 v.2).bind fun c=>(p1 l c.2).bind fun n3=>(many (pL l) n3.1.toNat n3.2).bind fun t=>some ((z.1,a.1,v.1,c.1,t.1),t.2)
end
structure Seg (l:List Int) (i j:Int) (bs:List Int):Prop where
 eq:l.drop i.toNat=bs++l.drop j.toNat
 len:j=i+bs.length
 i0:0≤i
 le:j≤l.length
theorem Seg.trans {l:List Int} {i j k:Int} {a b:List Int} (h:Seg l i j a) (h':Seg l j k b):Seg l i k (a++b):=by refine ⟨by rw [h.eq,h'.eq,jF],?_,h.i0,h'.le⟩;have:=h.len;have:=h'.len;rw [yU];omega
theorem Seg.nil {l:List Int} {i:Int} (h0:0≤i) (h1:i≤l.length):Seg l i i []:=⟨rfl,by simp,h0,h1⟩
theorem Seg.j0 {l:List Int} {i j:Int} {bs:List Int} (h:Seg l i j bs):0≤j:=by have:=h.len;have:=h.i0;omega
def Good {A:Type} (l:List Int) (rd:Rd A) (enc:A→List Int):Prop:= ∀ i x j,0≤i→i≤(l.length:Int)→rd i=some (x,j)→Seg l i j (enc x)
theorem Ky {A:Type} {l:List Int} {rd:Rd A} {enc:A→List Int} (h:Good l rd enc): ∀ n,Good l (many rd n) (fun xs=>xs.flatMap enc)
 |0,i,xs,j,h0,h1,he=>by unfold many at he;injection he with he;injection he with ha hb;subst ha hb;exact Seg.nil h0 h1
 |n+1,i,xs,j,h0,h1,he=>by obtain ⟨x,m,ys,e1,e2,rfl⟩:=tf he;have s1:=h i x m h0 h1 e1;have s2:=Ky h n m ys j s1.j0 s1.le e2;have:=s1.trans s2;simpa using this
theorem Vj {A:Type} {f:Int→A→List Int} (hf: ∀ i a,f i a=f 0 a): ∀ (l:List A) (i:Int),Zo f l i=l.flatMap (f 0)
 |[],_=>rfl
 |a::l,i=>by rw [Zo,Vj hf l,hf i a];simp
section
variable {l:List Int} (hb:isBytes l)
include hb
theorem yjP (i:Int):b8 (wN l i)=wN l i:=by have:=YQ hb i;unfold b8;rw [wrap_u8];omega
theorem Z9:Good l (p1 l) (fun x=>[b8 x]):=by
 intro i x j h0 h1 he;unfold p1 at he;split at he
 ·rename_i h;injection he with he;injection he with ha hj;subst ha hj;refine ⟨?_,by simp,h0,by omega⟩;show List.drop i.toNat l=[b8 (wN l i)]++_;rw [yjP hb,mT l i h0 h,show (i+1).toNat=i.toNat+1 by omega];rfl
 ·cases he
theorem NF (i:Int) (h0:0≤i) (h:i+2≤(l.length:Int)):Seg l i (i+2) (two (w2 l i)):=by
 have r1:=YQ hb i;have r2:=YQ hb (i+1);refine ⟨?_,by simp [two],h0,by omega⟩;have e:two (w2 l i)=[wN l i,wN l (i+1)]:=by unfold two w2;rw [show (wN l i*256+wN l (i+1)) / 256 % 256=wN l i by omega,show (wN l i*256+wN l (i+1)) % 256=wN l (i+1) by omega]
 rw [e,mT l i h0 (by omega),show i.toNat+1=(i+1).toNat by omega,mT l (i+1) (by omega) (by omega),show (i+2).toNat=(i+1).toNat+1 by omega];rfl
theorem ai:Good l (p2 l) two:=by
 intro i x j h0 h1 he;unfold p2 at he;split at he
 ·rename_i h;injection he with he;injection he with ha hj;subst ha hj;exact NF hb i h0 h
 ·cases he
theorem xJ:Good l (pF l) (fun b=>[bit b]):=by
 intro i x j h0 h1 he;unfold pF at he;split at he
 ·rename_i h;injection he with he;injection he with ha hj;subst ha hj;have r1:=YQ hb i;have e:bit (wN l i==1)=wN l i:=by
   unfold bit;by_cases h2:wN l i=1
   ·rw [y0 (by simpa using h2),h2]
   ·rw [y9 (by simpa using h2)];omega
  refine ⟨?_,by simp,h0,by omega⟩;show List.drop i.toNat l=[bit (wN l i==1)]++_;rw [e,mT l i h0 h.1,show (i+1).toNat=i.toNat+1 by omega];rfl
 ·cases he
theorem S1:Good l (pT l) tx:=by
 intro i x j h0 h1 he;unfold pT at he;split at he
 ·rename_i h;injection he with he;injection he with ha hj;subst ha hj;unfold bY at h ⊢;by_cases hc:0≤i∧i+2≤l.length∧w2 l i≤60∧i+2+w2 l i≤l.length
  ·rw [y0 hc];have hw:=fT hb i;have s1:=NF hb i h0 hc.2.1;have hseg:isBytes ((l.take (i+2+w2 l i).toNat).drop (i+2).toNat):=Fk (Wb hb _) _;have hlen:((l.take (i+2+w2 l i).toNat).drop (i+2).toNat).length=(w2 l i).toNat:=by
    rw [wU,Za];omega
   have hbt:=CF _ hseg;have hsz:((textOf ((l.take (i+2+w2 l i).toNat).drop (i+2).toNat)).size:Int)=w2 l i:=by rw [← gY,hbt,hlen];omega
   have s2:Seg l (i+2) (i+2+w2 l i) ((l.take (i+2+w2 l i).toNat).drop (i+2).toNat):=by refine ⟨?_,by rw [hlen];omega,by omega,hc.2.2.2⟩;rw [List.drop_take,show (i+2+w2 l i).toNat - (i+2).toNat=(w2 l i).toNat by omega,show (i+2+w2 l i).toNat=(i+2).toNat+(w2 l i).toNat by omega,← uO];exact (List.take_append_drop _ _).symm
   have:=s1.trans s2;unfold tx;rw [hsz,hbt];exact this
  ·rw [y9 hc] at h;cases h
 ·cases he
theorem rL:Good l (pA l) (Qs 0):=by intro i x j h0 h1 he;unfold pA at he;obtain ⟨a,ea,he⟩:=Yc.1 he;obtain ⟨b,eb,he⟩:=Yc.1 he;injection he with he;injection he with hx hj;subst hx hj;have s1:=Z9 hb i a.1 a.2 h0 h1 ea;have s2:=Z9 hb a.2 b.1 b.2 s1.j0 s1.le eb;exact s1.trans s2
theorem rM:Good l (pV l) (vZ 0):=by intro i x j h0 h1 he;unfold pV at he;obtain ⟨a,ea,he⟩:=Yc.1 he;obtain ⟨b,eb,he⟩:=Yc.1 he;obtain ⟨c,ec,he⟩:=Yc.1 he;obtain ⟨d,ed,he⟩:=Yc.1 he;injection he with he;injection he with hx hj;subst hx hj;have s1:=S1 hb i a.1 a.2 h0 h1 ea;have s2:=Z9 hb a.2 b.1 b.2 s1.j0 s1.le eb;have s3:=Z9 hb b.2 c.1 c.2 s2.j0 s2.le ec;have s4:=xJ hb c.2 d.1 d.2 s3.j0 s3.le ed;exact s1.trans (s2.trans (s3.trans s4))
theorem rN:Good l (pC l) (Wd 0):=by intro i x j h0 h1 he;unfold pC at he;obtain ⟨a,ea,he⟩:=Yc.1 he;obtain ⟨b,eb,he⟩:=Yc.1 he;obtain ⟨c,ec,he⟩:=Yc.1 he;injection he with he;injection he with hx hj;subst hx hj;have s1:=ai hb i a.1 a.2 h0 h1 ea;have s2:=xJ hb a.2 b.1 b.2 s1.j0 s1.le eb;have s3:=ai hb b.2 c.1 c.2 s2.j0 s2.le ec;exact s1.trans (s2.trans s3)
theorem xK:Good l (pK l) (k7 0):=by
 intro i x j h0 h1 he;unfold pK at he;split at he
 ·rename_i h;injection he with he;injection he with hx hj;subst hx hj;have g:=Z9 hb;have e: ∀ k,0≤k→k<(l.length:Int)→Seg l k (k+1) [b8 (wN l k)]:=fun k k0 k1=>g k _ _ k0 (by omega) (y0 k1);have s1:=e i h0 (by omega);have s2:=e (i+1) (by omega) (by omega);have s3:=e (i+2) (by omega) (by omega);have s4:=e (i+3) (by omega) (by omega);have s5:=NF hb (i+4) (by omega) (by omega);rw [show i+1+1=i+2 by omega] at s2;rw [show i+2+1=i+3 by omega] at s3;rw [show i+3+1=i+4 by omega] at s4;rw [show i+4+2=i+6 by omega] at s5;exact s1.trans (s2.trans (s3.trans (s4.trans s5)))
 ·cases he
theorem mp {A:Type} {rd:Rd A} {enc:A→List Int} (h:Good l rd enc):Good l (fun i=>(p1 l i).bind fun n=>many rd n.1.toNat n.2) (fun xs=>[b8 ((List.length xs:Nat):Int)]++xs.flatMap enc):=by
 intro i x j h0 h1 he;obtain ⟨n,en,he⟩:=Yc.1 he;have s1:=Z9 hb i n.1 n.2 h0 h1 en;have s2:=Ky h n.1.toNat n.2 x j s1.j0 s1.le he;have hn:((List.length x:Nat):Int)=n.1:=by
  rw [dM he];unfold p1 at en;split at en
  ·injection en with en;have:=YQ hb i;rw [← en];show ((Int.toNat (wN l i):Nat):Int)=wN l i;omega
  ·cases en
 show Seg l i j ([b8 ((List.length x:Nat):Int)]++x.flatMap enc);rw [hn];exact s1.trans s2
theorem FU:Good l (pS l) (ZK 0):=by intro i x j h0 h1 he;have:=mp hb (xK hb) i x j h0 h1 he;unfold ZK;rw [Vj (f:=k7) (fun _ _=>rfl)];exact this
def L_ (n:y6):List Int:=[b8 ((List.length n:Nat):Int)]++Zo ZK n 0
theorem y2G:Good l (pNd l) L_:=by intro i x j h0 h1 he;have:=mp hb (FU hb) i x j h0 h1 he;unfold L_;rw [Vj (f:=ZK) (fun _ _=>rfl)];exact this
def Ef (p:Int×y6):List Int:=two p.1++L_ p.2
theorem FV:Good l (pL l) Ef:=by intro i x j h0 h1 he;unfold pL at he;obtain ⟨a,ea,he⟩:=Yc.1 he;obtain ⟨b,eb,he⟩:=Yc.1 he;injection he with he;injection he with hx hj;subst hx hj;have s1:=ai hb i a.1 a.2 h0 h1 ea;have s2:=y2G hb a.2 b.1 b.2 s1.j0 s1.le eb;exact s1.trans s2
end
theorem th: ∀ (ps:List (Int×y6)) (q:List Int) (i:Int),0≤i→q.drop i.toNat=ps.map Prod.fst→Zo (ZY q) (ps.map Prod.snd) i=ps.flatMap Ef
 |[],q,i,_,_=>rfl
 |p::ps,q,i,h0,h=>by
  have h1:q[i.toNat]? =some p.1:=by have:=congrArg (fun l=>l[0]?) h;simpa using this
  have h2:q.drop (i+1).toNat=ps.map Prod.fst:=by have:=congrArg (List.drop 1) h;rw [uO] at this;rw [show (i+1).toNat=i.toNat+1 by omega];simpa using this
  rw [J7,Zo,th ps q (i+1) (by omega) h2,oA];unfold ZY Ef L_;rw [Zr,h1];rfl
theorem y2H {l:List Int} (hb:isBytes l) {p:PQ} {j:Int} (h:pP l=some (p,j)):Seg l 0 j (eI (p.2.2.2.2.map Prod.fst) (p.2.2.2.2.map Prod.snd) p.2.1 p.2.2.2.1 p.2.2.1 p.1):=by unfold pP at h;obtain ⟨z,ez,h⟩:=Yc.1 h;obtain ⟨n1,e1,h⟩:=Yc.1 h;obtain ⟨a,ea,h⟩:=Yc.1 h;obtain ⟨n2,e2,h⟩:=Yc.1 h;obtain ⟨v,ev,h⟩:=Yc.1 h;obtain ⟨c,ec,h⟩:=Yc.1 h;obtain ⟨n3,e3,h⟩:=Yc.1 h;obtain ⟨t,et,h⟩:=Yc.1 h;injection h with h;injection h with hp hj;subst hp hj;have s0:=ai hb 0 z.1 z.2 (yP _) (by omega) ez;have s1:=mp hb (rL hb) z.2 a.1 a.2 s0.j0 s0.le (Yc.2 ⟨_,e1,ea⟩);have s2:=mp hb (rM hb) a.2 v.1 v.2 s1.j0 s1.le (Yc.2 ⟨_,e2,ev⟩);have s3:=Ky (rN hb) 24 v.2 c.1 c.2 s2.j0 s2.le ec;have s4:=mp hb (FV hb) c.2 t.1 t.2 s3.j0 s3.le (Yc.2 ⟨_,e3,et⟩);have:=s0.trans (s1.trans (s2.trans (s3.trans s4)));unfold eI;rw [th t.1 (t.1.map Prod.fst) 0 (yP _) (by simp),Vj (f:=Qs) (fun _ _=>rfl),Vj (f:=vZ) (fun _ _=>rfl),Vj (f:=Wd) (fun _ _=>rfl),wV];simp only [jF] at this ⊢;exact this
section
variable {T A R:Type} {step:(T→Option R)→T→Option R} {l:List Int} {rd:Rd A} {enc:A→List Int}
theorem NG (hg:Good l rd enc) (St:Nat→Int→Bool→List A→T) (k:Int→Bool→List A→Option R)
  (hgo: ∀ again m i o x j,m<300→0≤i→i≤(l.length:Int)→List.length o≤1000→rd i=some (x,j)→step again (St (m+1) i false o)=again (St m j false (o++[x])))
  (hbad: ∀ again m i o,m<300→0≤i→i≤(l.length:Int)→List.length o≤1000→rd i=none→(∃ j y,0≤j∧j≤(l.length:Int)∧step again (St (m+1) i false o)=again (St m j true (o++[y])))∨(∃ j o',0≤j∧j≤(l.length:Int)∧step again (St (m+1) i false o)=k j true o'))
  (hstop: ∀ again m i b o,m=0∨b=true→step again (St m i b o)=k i b o):
  ∀ (n:Nat) (i:Int) (o:List A) (f:Nat),n<300→0≤i→i≤(l.length:Int)→List.length o+n≤1000→n+2≤f→
   (∀ xs j,many rd n i=some (xs,j)→iter step f (St n i false o)=k j false (o++xs))∧(many rd n i=none→ ∃ j o',0≤j∧j≤(l.length:Int)∧iter step f (St n i false o)=k j true o'):=by
 intro n;induction n with
 |zero=>
  intro i o f _ i0 i1 _ hf;obtain ⟨f',rfl⟩: ∃ f',f=f'+1:=⟨f - 1,by omega⟩
  refine ⟨fun xs j h=> ?_,fun h=> ?_⟩
  ·unfold many at h;injection h with h;injection h with ha hb;subst ha hb;rw [iter,hstop _ 0 i false o (.inl rfl),lu]
  ·unfold many at h;cases h
 |succ n ih=>
  intro i o f hn i0 i1 ho hf;obtain ⟨f',rfl⟩: ∃ f',f=f'+1:=⟨f - 1,by omega⟩
  rw [iter];unfold many;cases hr:rd i with
  |none=>
   refine ⟨fun xs j h=>by simp at h,fun _=> ?_⟩;rcases hbad (iter step f') n i o (by omega) i0 i1 (by omega) hr with ⟨j,y,j0,j1,e⟩|⟨j,o',j0,j1,e⟩
   ·obtain ⟨f2,rfl⟩: ∃ f2,f'=f2+1:=⟨f' - 1,by omega⟩
    exact ⟨j,o++[y],j0,j1,by rw [e,iter,hstop _ n j true _ (.inr rfl)]⟩
   ·exact ⟨j,o',j0,j1,e⟩
  |some xj=>
   obtain ⟨x,j⟩:=xj;have hs:=hg i x j i0 i1 hr;obtain ⟨h1,h2⟩:=ih j (o++[x]) f' (by omega) hs.j0 hs.le (by rw [yU];simp only [yp,yr];omega) (by omega);rw [hgo _ n i o x j (by omega) i0 i1 (by omega) hr];simp only;cases hm:many rd n j with
   |none=>exact ⟨fun xs k h=>by simp at h,fun _=>h2 hm⟩
   |some yk=>obtain ⟨ys,k'⟩:=yk;refine ⟨fun xs k2 h=> ?_,fun h=>by simp at h⟩;simp only at h;injection h with h;injection h with ha hb;subst ha hb;rw [h1 ys k' hm,jF];rfl
theorem cH (hg:Good l rd enc) (St:Nat→Int→Bool→List A→T) (k:Int→Bool→List A→Option R)
  (hgo: ∀ again m i o x j,m<300→0≤i→i≤(l.length:Int)→List.length o≤1000→rd i=some (x,j)→step again (St (m+1) i false o)=again (St m j false (o++[x])))
  (hbad: ∀ again m i o,m<300→0≤i→i≤(l.length:Int)→List.length o≤1000→rd i=none→(∃ j y,0≤j∧j≤(l.length:Int)∧step again (St (m+1) i false o)=again (St m j true (o++[y])))∨(∃ j o',0≤j∧j≤(l.length:Int)∧step again (St (m+1) i false o)=k j true o'))
  (hstop: ∀ again m i b o,m=0∨b=true→step again (St m i b o)=k i b o) (n:Nat) (hn:n<300) (i:Int) (i0:0≤i) (i1:i≤(l.length:Int)):
  (∀ xs j,many rd n i=some (xs,j)→iter step FUEL (St n i false [])=k j false xs)∧(many rd n i=none→ ∃ j o',0≤j∧j≤(l.length:Int)∧iter step FUEL (St n i false [])=k j true o'):=by
 have:=NG hg St k hgo hbad hstop n i [] FUEL hn i0 i1 (by simp;omega) (by rw [Zz];omega);simpa using this
end
def Sim {A:Type} (l:List Int) (r:Option (A×Int)) (o:Option (A×List yn×Int×Bool)):Prop:=
 (∀ x j,r=some (x,j)→o=some (x,l,j,false))∧(r=none→ ∃ y j,o=some (y,l,j,true)∧0≤j∧j≤(l.length:Int))
section
variable {l:List Int} (hb:isBytes l) (hl:l.length≤1048576)
include hb hl
theorem mq (i:Int) (b:Bool) (h0:0≤i) (h1:i≤(l.length:Int)):ze (l,i,b)=some (if b=false∧i<l.length then (wN l i,l,i+1,false) else (0,l,i,true)):=by
 unfold ze nz;simp only [yl,ym,nI,bV hb];rw [zb (n:=i+1) (by omega) (by omega),show i+1 - 1=i by omega,zb (n:=i) (by omega) (by omega)];cases b with
 |true=>simp
 |false=>
  by_cases h:i<l.length
  ·simp [h,h0,show ¬ (l.length:Int)≤i by omega,bV hb]
  ·simp [h,show (l.length:Int)≤i by omega]
theorem YP (i:Int) (h0:0≤i) (h1:i≤(l.length:Int)):Sim l (p1 l i) (ze (l,i,false)):=by
 rw [mq hb hl i false h0 h1];unfold p1;refine ⟨fun x j h=> ?_,fun h=> ?_⟩
 ·split at h
  ·rename_i hc;injection h with h;injection h with ha hj;subst ha hj;rw [y0 ⟨rfl,hc⟩]
  ·cases h
 ·split at h
  ·cases h
  ·rename_i hc;exact ⟨(0:Int),i,by rw [y9 (fun hh=>hc hh.2)],h0,h1⟩
theorem jD (i:Int) (h0:0≤i) (h1:i≤(l.length:Int)):ze (l,i,true)=some (0,l,i,true):=by rw [mq hb hl i true h0 h1,y9 (fun h=>by cases h.1)]
theorem Eg (i:Int) (h0:0≤i) (h1:i≤(l.length:Int)): ∃ y,zQ (l,i,true)=some (y,l,i,true):=by unfold zQ nz;simp only [jD hb hl i h0 h1,zzal0];exact ⟨_,rfl⟩
theorem Cf (i:Int) (h0:0≤i) (h1:i<(l.length:Int)):ze (l,i,false)=some (wN l i,l,i+1,false):=by rw [mq hb hl i false h0 (by omega),y0 ⟨rfl,h1⟩]
theorem tj (i:Int) (h0:0≤i) (h1:i=(l.length:Int)):ze (l,i,false)=some (0,l,i,true):=by rw [mq hb hl i false h0 (by omega),y9 (fun h=>by have:=h.2;omega)]
theorem Vk (i:Int) (h0:0≤i) (h1:i≤(l.length:Int)):Sim l (p2 l i) (zQ (l,i,false)):=by
 have r1:=YQ hb i;have r2:=YQ hb (i+1);unfold zQ p2 nz;by_cases ha:i<(l.length:Int)
 ·simp only [Cf hb hl i h0 ha,zzal0];by_cases hc:i+1<(l.length:Int)
  ·rw [y0 (show i+2≤(l.length:Int) by omega)];simp only [Cf hb hl (i+1) (by omega) hc,zzal0];rw [y25 _ _ r1.1 r1.2 r2.1 r2.2,show i+1+1=i+2 by omega];refine ⟨fun x j h=> ?_,fun h=>by (cases h)⟩;injection h with h;injection h with h2 h3;subst h2 h3;rfl
  ·rw [y9 (show ¬ i+2≤(l.length:Int) by omega)];simp only [tj hb hl (i+1) (by omega) (by omega),zzal0];exact ⟨fun x j h=>by (cases h),fun _=>⟨_,_,rfl,by omega,by omega⟩⟩
 ·rw [y9 (show ¬ i+2≤(l.length:Int) by omega)];simp only [tj hb hl i h0 (by omega),jD hb hl i h0 h1,zzal0];exact ⟨fun x j h=>by (cases h),fun _=>⟨_,_,rfl,by omega,by omega⟩⟩
theorem FW (i:Int) (h0:0≤i) (h1:i≤(l.length:Int)):jp (l,i,true)=some (false,l,i,true):=by unfold jp nz;simp only [jD hb hl i h0 h1,zzal0];rfl
theorem xL (i:Int) (h0:0≤i) (h1:i≤(l.length:Int)):Sim l (pF l i) (jp (l,i,false)):=by
 unfold jp pF nz;by_cases ha:i<(l.length:Int)
 ·simp only [Cf hb hl i h0 ha,zzal0,yi];by_cases hc:wN l i≤1
  ·rw [y0 ⟨ha,hc⟩,yX (show ¬ wN l i>1 by omega)];refine ⟨fun x j h=> ?_,fun h=>by (cases h)⟩;injection h with h;injection h with h2 h3;subst h2 h3;rfl
  ·rw [y9 (fun h=>hc h.2),yG (show wN l i>1 by omega)];exact ⟨fun x j h=>by (cases h),fun _=>⟨_,_,rfl,by omega,by omega⟩⟩
 ·rw [y9 (fun h=>ha h.1)];simp only [tj hb hl i h0 (by omega),zzal0];exact ⟨fun x j h=>by (cases h),fun _=>⟨_,_,rfl,by omega,by omega⟩⟩
theorem M0 (i:Int) (h0:0≤i) (h1:i≤(l.length:Int)):
  (∀ x j,pV l i=some (x,j)→KW (l,i,false)=some (x.1,x.2.1,x.2.2.1,x.2.2.2,l,j,false))∧(pV l i=none→ ∃ y:yj,∃ j,KW (l,i,false)=some (y.1,y.2.1,y.2.2.1,y.2.2.2,l,j,true)∧0≤j∧j≤(l.length:Int)):=by
 unfold KW pV nz;simp only [uA l i hb (by omega) (by omega) (by omega),zzal0,yi];have hn:=Tx l i hb;unfold pT;cases ht:(bY l i).2.2 with
 |false=>simp only [J6,zP,wT];exact ⟨fun x j h=>by (cases h),fun _=>⟨(⟨#[]⟩,0,0,false),i,rfl,h0,h1⟩⟩
 |true=>
  simp only [yo,zzal0,yJ,yi];cases e1:p1 l (bY l i).2.1 with
  |none=>obtain ⟨y1,j1,f1,a1,b1⟩:=(YP hb hl _ hn.1 hn.2).2 e1;simp only [f1,zzal0,wT,jD hb hl j1 a1 b1,FW hb hl j1 a1 b1];exact ⟨fun x j h=>by (cases h),fun _=>⟨(_,_,_,_),j1,rfl,a1,b1⟩⟩
  |some x1=>
   have f1:=(YP hb hl _ hn.1 hn.2).1 x1.1 x1.2 e1;have s1:=Z9 hb _ x1.1 x1.2 hn.1 hn.2 e1;simp only [f1,zzal0];cases e2:p1 l x1.2 with
   |none=>obtain ⟨y1,j1,f2,a1,b1⟩:=(YP hb hl _ s1.j0 s1.le).2 e2;simp only [f2,zzal0,wT,FW hb hl j1 a1 b1];exact ⟨fun x j h=>by (cases h),fun _=>⟨(_,_,_,_),j1,rfl,a1,b1⟩⟩
   |some x2=>
    have f2:=(YP hb hl _ s1.j0 s1.le).1 x2.1 x2.2 e2;have s2:=Z9 hb _ x2.1 x2.2 s1.j0 s1.le e2;simp only [f2,zzal0];cases e3:pF l x2.2 with
    |none=>obtain ⟨y1,j1,f3,a1,b1⟩:=(xL hb hl _ s2.j0 s2.le).2 e3;simp only [f3,zzal0,wT];exact ⟨fun x j h=>by (cases h),fun _=>⟨(_,_,_,_),j1,rfl,a1,b1⟩⟩
    |some x3=>have f3:=(xL hb hl _ s2.j0 s2.le).1 x3.1 x3.2 e3;simp only [f3,zzal0];refine ⟨fun x j h=> ?_,fun h=>by (cases h)⟩;injection h with h;injection h with h2 h3;subst h2 h3;rfl
theorem S2 (i:Int) (h0:0≤i) (h1:i≤(l.length:Int)):(∀ x j,pK l i=some (x,j)→KX (l,i)=some (x.1,x.2.1,x.2.2.1,x.2.2.2.1,x.2.2.2.2,j,true))∧(pK l i=none→KX (l,i)=some (0,0,0,0,0,0,false)):=by
 unfold KX pK nz;simp only [zK,zzal0,nI,bV hb];rw [zb (n:=(l.length:Int) - 6) (by omega) (by omega),zb (n:=i+4) (by omega) (by omega),zb (n:=i+1) (by omega) (by omega),zb (n:=i+2) (by omega) (by omega),zb (n:=i+3) (by omega) (by omega)];by_cases ha:i+6≤(l.length:Int)
 ·have hin:Yn i 0 ((l.length:Int) - 6)=true:=zi.2 ⟨h0,by omega⟩;have eW:rA l (i+4)=(w2 l (i+4),i+6,true):=by
   unfold rA;rw [y0 ⟨by omega,by omega⟩,show i+4+2=i+6 by omega]
  simp only [hin,yJ,yi,gW l (i+4) hb (by omega) (by omega) (by omega),eW,zzal0,af];rw [y0 (show (0:Int)≤i from h0),y0 (show i<((List.length l:Nat):Int) by omega),y0 (show (0:Int)≤i+1 by omega),y0 (show i+1<((List.length l:Nat):Int) by omega),y0 (show (0:Int)≤i+2 by omega),y0 (show i+2<((List.length l:Nat):Int) by omega),y0 (show (0:Int)≤i+3 by omega),y0 (show i+3<((List.length l:Nat):Int) by omega)];cases hk:Yz (wN l i,wN l (i+1),wN l (i+2),wN l (i+3),w2 l (i+4)) with
  |false=>rw [y9 (fun h=>by rw [show Yz (LZ l i)=false from hk] at h;cases h.2)];exact ⟨fun x j h=>by (cases h),fun _=>rfl⟩
  |true=>rw [y0 ⟨ha,hk⟩];refine ⟨fun x j h=> ?_,fun h=>by (cases h)⟩;injection h with h;injection h with h2 h3;subst h2 h3;rfl
 ·have hin:Yn i 0 ((l.length:Int) - 6)=false:=by
   cases hc:Yn i 0 ((l.length:Int) - 6) with
   |false=>rfl
   |true=>have:=zi.1 hc;omega
  rw [hin,y9 (fun h=>ha h.1)];exact ⟨fun x j h=>by (cases h),fun _=>rfl⟩
omit hl in
theorem y2I {i n j:Int} (h:p1 l i=some (n,j)):0≤n∧n<256:=by
 unfold p1 at h;split at h
 ·injection h with h;injection h with ha _;have:=YQ hb i;omega
 ·cases h
theorem tm (i:Int) (h0:0≤i) (h1:i≤(l.length:Int)):Sim l (pS l i) (kN (l,i,false)):=by
 unfold kN pS nz;cases e1:p1 l i with
 |none=>
  obtain ⟨y1,j1,f1,a1,b1⟩:=(YP hb hl _ h0 h1).2 e1;have hy:y1=0:=by
   have:=mq hb hl i false h0 h1;rw [f1] at this;split at this
   ·injection this with this;injection this with _ this;injection this with _ this;injection this with _ this;cases this
   ·injection this with this;injection this with this _
  subst hy;simp only [f1,zzal0,wT];unfold Qn;have hF:FUEL=(FUEL - 1)+1:=by have:=Zz;omega
  rw [hF,iter];exact ⟨fun x j h=>by (cases h),fun _=>⟨[],j1,rfl,a1,b1⟩⟩
 |some x1=>
  have f1:=(YP hb hl _ h0 h1).1 x1.1 x1.2 e1;have s1:=Z9 hb _ x1.1 x1.2 h0 h1 e1;have hc:=y2I hb (i:=i) (n:=x1.1) (j:=x1.2) e1;simp only [f1,zzal0];unfold Qn;have hm:=cH (step:=jA (fun x4=>some (x4.2.2.2,x4.1,x4.2.1,x4.2.2.1)) (fun x5=>some (x5.2.2.2,x5.1,x5.2.1,x5.2.2.1))) (xK hb) (fun m i b o=>(((m:Nat):Int),l,i,b,o)) (fun i b o=>some (o,l,i,b)) ?_ ?_ ?_ x1.1.toNat (by omega) x1.2 s1.j0 s1.le
  ·rw [show ((x1.1.toNat:Nat):Int)=x1.1 by omega] at hm;refine ⟨fun x j h=>hm.1 x j h,fun h=> ?_⟩;obtain ⟨j,o',j0,j1,e⟩:=hm.2 h;exact ⟨o',j,e,j0,j1⟩
  ·intro again m i o x j hm i0 i1 ho hr;have hw:Go.IntKind.wrap .i64 (((m+1:Nat):Int) - 1)=((m:Nat):Int):=by
    rw [zb (by omega) (by omega)];omega
   unfold jA nz;simp only [yG (show ((m+1:Nat):Int)>0 by omega),yg,Yd,zzal0,(S2 hb hl i i0 i1).1 x j hr,yJ,yi,hw];rw [y0 (by simp only [yp,yr];omega)]
  ·intro again m i o hm i0 i1 ho hr;unfold jA nz;simp only [yG (show ((m+1:Nat):Int)>0 by omega),yg,Yd,zzal0,(S2 hb hl i i0 i1).2 hr];exact .inr ⟨i,o,i0,i1,rfl⟩
  ·intro again m i b o h;unfold jA nz;rcases h with rfl|rfl
   ·rfl
   ·by_cases hm:((m:Nat):Int)>0
    ·simp only [yG hm];rfl
    ·simp only [yX hm];rfl
def ia (m:Nat) (l:List Int) (i:Int) (b:Bool):List yc→Kl
 |[]=> .inl (((m:Nat):Int),l,i,b)
 |a::r=> .inr (((m:Nat):Int),l,i,b,a::r)
theorem Eh (i:Int) (h0:0≤i) (h1:i≤(l.length:Int)):Sim l (pNd l i) (Zh (l,i,false)):=by
 unfold Zh pNd nz;have hF:FUEL=(FUEL - 1)+1:=by have:=Zz;omega
 cases e1:p1 l i with
 |none=>
  obtain ⟨y1,j1,f1,a1,b1⟩:=(YP hb hl _ h0 h1).2 e1;have hy: ∃ y,ze (l,i,false)=some (y,l,j1,true):=⟨_,f1⟩
  simp only [f1,zzal0,wT];unfold Km;rw [hF,iter];refine ⟨fun x j h=>by (cases h),fun _=>⟨[],j1,?_,a1,b1⟩⟩;simp only [nz,Yl];by_cases hm:y1>0
  ·simp only [yG hm];rfl
  ·simp only [yX hm];rfl
 |some x1=>
  have f1:=(YP hb hl _ h0 h1).1 x1.1 x1.2 e1;have s1:=Z9 hb _ x1.1 x1.2 h0 h1 e1;have hc:=y2I hb (i:=i) (n:=x1.1) (j:=x1.2) e1;simp only [f1,zzal0];unfold Km;have hm:=cH (step:=Yl (fun x6=>some (([]:List yc),x6.1,x6.2.1,x6.2.2)) (fun x7=>some (x7.2.2.2,x7.1,x7.2.1,x7.2.2.1))) (FU hb) (fun m i b o=>ia m l i b o) (fun i b o=>some (o,l,i,b)) ?_ ?_ ?_ x1.1.toNat (by omega) x1.2 s1.j0 s1.le
  ·have e0:ia x1.1.toNat l x1.2 false []= .inl (x1.1,l,x1.2,false):=by
    unfold ia;rw [show ((x1.1.toNat:Nat):Int)=x1.1 by omega]
   rw [e0] at hm;refine ⟨fun x j h=>hm.1 x j h,fun h=> ?_⟩;obtain ⟨j,o',j0,j1,e⟩:=hm.2 h;exact ⟨o',j,e,j0,j1⟩
  ·intro again m i o x j hm i0 i1 ho hr;have hw:Go.IntKind.wrap .i64 (((m+1:Nat):Int) - 1)=((m:Nat):Int):=by
    rw [zb (by omega) (by omega)];omega
   cases o with
   |nil=>simp only [nz,ia,Yl,yG (show ((m+1:Nat):Int)>0 by omega),yg,Yd,zzal0,(tm hb hl i i0 i1).1 x j hr,hw];rw [y0 (len1 _ _ (by decide))];rfl
   |cons a r=>simp only [nz,ia,Yl,yG (show ((m+1:Nat):Int)>0 by omega),yg,Yd,zzal0,(tm hb hl i i0 i1).1 x j hr,hw];rw [y0 (by simp only [yp,yr] at ho ⊢;omega)];rfl
  ·intro again m i o hm i0 i1 ho hr;have hw:Go.IntKind.wrap .i64 (((m+1:Nat):Int) - 1)=((m:Nat):Int):=by
    rw [zb (by omega) (by omega)];omega
   obtain ⟨y,j,e,j0,j1⟩:=(tm hb hl i i0 i1).2 hr;refine .inl ⟨j,y,j0,j1,?_⟩;cases o with
   |nil=>simp only [nz,ia,Yl,yG (show ((m+1:Nat):Int)>0 by omega),yg,Yd,zzal0,e,hw];rw [y0 (len1 _ _ (by decide))];rfl
   |cons a r=>simp only [nz,ia,Yl,yG (show ((m+1:Nat):Int)>0 by omega),yg,Yd,zzal0,e,hw];rw [y0 (by simp only [yp,yr] at ho ⊢;omega)];rfl
  ·intro again m i b o h;cases o with
   |nil=>
    simp only [nz,ia,Yl];rcases h with rfl|rfl
    ·rfl
    ·by_cases hm:((m:Nat):Int)>0
     ·simp only [yG hm];rfl
     ·simp only [yX hm];rfl
   |cons a r=>
    simp only [nz,ia,Yl];rcases h with rfl|rfl
    ·rfl
    ·by_cases hm:((m:Nat):Int)>0
     ·simp only [yG hm];rfl
     ·simp only [yX hm];rfl
theorem TF (i:Int) (h0:0≤i) (h1:i≤(l.length:Int)):Zh (l,i,true)=some ([],l,i,true):=by
 unfold Zh nz;simp only [jD hb hl i h0 h1,zzal0];unfold Km;have hF:FUEL=(FUEL - 1)+1:=by have:=Zz;omega
 rw [hF,iter];rfl
end
abbrev P7:Type:=List yf×List y6×List yb×List ya×List yj×Int×Bool
def no7:P7:=([],[],[],[],[],0,false)
noncomputable def rP (l:List Int):P7:=match pP l with
 |some (p,j)=>if j=(l.length:Int)∧zc (p.2.2.2.2.map Prod.fst) (p.2.2.2.2.map Prod.snd) p.2.1 p.2.2.2.1 p.2.2.1 p.1=true then (p.2.2.2.2.map Prod.fst,p.2.2.2.2.map Prod.snd,p.2.1,p.2.2.2.1,p.2.2.1,p.1,true) else no7
 |none=>no7
theorem M1 {A:Type} {rd:Rd A}: ∀ {n:Nat} {i k:Int} {xs:List A},many rd n i=some (xs,k)→ ∀ x∈xs,∃ i j,rd i=some (x,j)
 |0,i,k,xs,h,x,hx=>by
  have:=dM h;cases xs with
  |nil=>simp at hx
  |cons _ _=>simp at this
 |n+1,i,k,xs,h,x,hx=>by
  obtain ⟨y,j,ys,h1,h2,rfl⟩:=tf h;rcases yR.1 hx with rfl|hx
  ·exact ⟨i,j,h1⟩
  ·exact M1 h2 x hx
theorem M2: ∀ (ps:List (Int×y6)),Yh KY (ps.map Prod.snd)≤((ps.flatMap Ef).length:Int)
 |[]=>by simp [Yh]
 |p::ps=>by
  have h1:=M2 ps;rw [J7,Yp,oA,yU];have hs: ∀ (n:List yc),(List.length n:Int)+Yh (fun a:yc=>(List.length a:Int)) n≤((Zo ZK n 0).length:Int):=by
   intro n;rw [Vj (f:=ZK) (fun _ _=>rfl)];induction n with
   |nil=>simp [Yh]
   |cons s n ih=>
    rw [Yp,oA,yU,yp];have hk:(ZK 0 s).length=1+6*List.length s:=by
     unfold ZK;rw [Vj (f:=k7) (fun _ _=>rfl),yU];have: ∀ s:List y7,(s.flatMap (k7 0)).length=6*s.length:=by
      intro s;induction s with
      |nil=>rfl
      |cons k s ih=>rw [oA,yU,ih,yp,BG];omega
     rw [this];rfl
    omega
  have h2:=hs p.2;have h3:KY p.2=(List.length p.2:Int)+Yh (fun a:yc=>(List.length a:Int)) p.2:=rfl;have h4:(Ef p).length=3+(Zo ZK p.2 0).length:=by unfold Ef L_;rw [yU,yU];simp only [two,yp,yr];omega
  omega
theorem cnt_lt {l:List Int} (hb:isBytes l) {i n j:Int} (h:p1 l i=some (n,j)):0≤n∧n<256:=by
 unfold p1 at h;split at h
 ·injection h with h;injection h with ha _;have:=YQ hb i;omega
 ·cases h
theorem M3 {l:List Int} (hb:isBytes l) (hl:l.length≤1048576) {p:PQ} {j:Int} (h:pP l=some (p,j)):
  small (p.2.2.2.2.map Prod.fst) (p.2.2.2.2.map Prod.snd) p.2.1 p.2.2.2.1 p.2.2.1∧Jl (p.2.2.2.2.map Prod.snd)∧ ∀ v∈p.2.2.1,ByteArray.size v.1≤maxLen:=by
 have hseg:=y2H hb h;unfold pP at h;obtain ⟨z,ez,h⟩:=Yc.1 h;obtain ⟨n1,e1,h⟩:=Yc.1 h;obtain ⟨a,ea,h⟩:=Yc.1 h;obtain ⟨n2,e2,h⟩:=Yc.1 h;obtain ⟨v,ev,h⟩:=Yc.1 h;obtain ⟨c,ec,h⟩:=Yc.1 h;obtain ⟨n3,e3,h⟩:=Yc.1 h;obtain ⟨t,et,h⟩:=Yc.1 h;injection h with h;injection h with hp hj;subst hp hj;simp only at hseg ⊢;have c1:=cnt_lt hb (n:=n1.1) (j:=n1.2) e1;have c2:=cnt_lt hb (n:=n2.1) (j:=n2.2) e2;have c3:=cnt_lt hb (n:=n3.1) (j:=n3.2) e3;have la:=dM (xs:=a.1) (k:=a.2) ea;have lv:=dM (xs:=v.1) (k:=v.2) ev;have lc:=dM (xs:=c.1) (k:=c.2) ec;have lt:=dM (xs:=t.1) (k:=t.2) et;have hlen:=hseg.len;have hle:=hseg.le;have ymR:=th t.1 (t.1.map Prod.fst) 0 (yP _) (by simp);unfold eI at hlen;rw [ymR] at hlen;simp only [yU] at hlen;have hsum:=M2 t.1;have y2J:Yh KY (t.1.map Prod.snd)≤1048576:=by omega
 have lt2:(t.1.map Prod.snd).length=n3.1.toNat:=by rw [wV];exact lt
 refine ⟨⟨by rw [wV];omega,by omega,y2J,by omega,by omega,by omega⟩,⟨by omega,fun n hn=> ?_,y2J⟩,fun w hw=> ?_⟩
 ·have:=(vY y2J hn).1;omega
 ·obtain ⟨i,j,e⟩:=M1 (xs:=v.1) (k:=v.2) ev w hw;unfold pV at e;obtain ⟨n,en,e⟩:=Yc.1 e;obtain ⟨x,ex,e⟩:=Yc.1 e;obtain ⟨y,ey,e⟩:=Yc.1 e;obtain ⟨b,eb,e⟩:=Yc.1 e;injection e with e;injection e with e _;subst e;unfold pT at en;split at en
  ·injection en with en;rw [← en];exact YI (Tw l i hb) (by decide)
  ·cases en
section
variable {R:Type} {l:List Int} (hb:isBytes l) (hl:l.length≤1048576) (z:Int)
abbrev T_:Type:=List yn×Int×List yn×Int×Bool×Int×List yf×List yb×List ya×List yj
theorem fuel1:FUEL=(FUEL - 1)+1:=by have:=Zz;omega
theorem S3 (k0:T_→Option R) (n i:Int):jB k0 (l,n,0,l,i,true,z,[],[],[],[])=k0 (l,0,l,i,true,z,[],[],[],[]):=by unfold jB;rw [fuel1,iter];unfold Zv nz;cases decide (n>0)<;>rfl
theorem rQ (k0:T_→Option R) (n i:Int) (a:List yb):ZT k0 (l,n,0,l,i,true,z,[],a,[],[])=k0 (l,0,l,i,true,z,[],a,[],[]):=by unfold ZT;rw [fuel1,iter];unfold Zi nz;cases decide (n>0)<;>rfl
theorem mr (k0:T_→Option R) (n i:Int) (a:List yb) (v:List yj):ZU k0 (l,n,0,l,i,true,z,[],a,[],v)=k0 (l,0,l,i,true,z,[],a,[],v):=by unfold ZU;rw [fuel1,iter];unfold Zj nz;cases h:decide (n<24)<;>simp only [h]<;>rfl
abbrev S11:Type:=List yn×Int×List yn×Int×Bool×Int×List yf×List y6×List yb×List ya×List yj
theorem dN (k0:T_→Option R) (k1:S11→Option R) (n i:Int) (a:List yb) (v:List yj) (c:List ya):ZV k0 k1 (Sum.inl (l,n,0,l,i,true,z,[],a,c,v))=k0 (l,0,l,i,true,z,[],a,c,v):=by unfold ZV;rw [fuel1,iter];simp only [nz,Y8];cases decide (n>0)<;>rfl
include hb hl
theorem sp4 (k0:T_→Option R) (n:Nat) (hn:n<300) (i:Int) (h0:0≤i) (h1:i≤(l.length:Int)):
  (∀ a j,many (pA l) n i=some (a,j)→jB k0 (l,((n:Nat):Int),0,l,i,false,z,[],[],[],[])=k0 (l,0,l,j,false,z,[],a,[],[]))∧(many (pA l) n i=none→ ∃ j a,0≤j∧j≤(l.length:Int)∧jB k0 (l,((n:Nat):Int),0,l,i,false,z,[],[],[],[])=k0 (l,0,l,j,true,z,[],a,[],[])):=by
 unfold jB;refine cH (step:=Zv k0) (rL hb) (fun m i b o=>(l,((m:Nat):Int),0,l,i,b,z,[],o,[],[])) (fun i b o=>k0 (l,0,l,i,b,z,[],o,[],[])) ?_ ?_ ?_ n hn i h0 h1
 ·intro again m i o x j hm i0 i1 ho hr;have hw:Go.IntKind.wrap .i64 (((m+1:Nat):Int) - 1)=((m:Nat):Int):=by
   rw [zb (by omega) (by omega)];omega
  unfold pA at hr;obtain ⟨a,ea,hr⟩:=Yc.1 hr;obtain ⟨b,eb,hr⟩:=Yc.1 hr;injection hr with hr;injection hr with hx hj;subst hx hj;have s1:=Z9 hb i a.1 a.2 i0 i1 ea;unfold Zv nz;simp only [yG (show ((m+1:Nat):Int)>0 by omega),yg,Yd,zzal0,(YP hb hl i i0 i1).1 a.1 a.2 ea,(YP hb hl a.2 s1.j0 s1.le).1 b.1 b.2 eb,hw];rw [y0 (by simp only [yp,yr];omega)]
 ·intro again m i o hm i0 i1 ho hr;have hw:Go.IntKind.wrap .i64 (((m+1:Nat):Int) - 1)=((m:Nat):Int):=by
   rw [zb (by omega) (by omega)];omega
  refine .inl ?_;unfold pA at hr;unfold Zv nz;simp only [yG (show ((m+1:Nat):Int)>0 by omega),yg,Yd,zzal0,hw];have hcap: ∀ y:yb,(List.length o+List.length ([y]:List yb))*16<140737488355328:=fun y=>by simp only [yp,yr];omega
  cases e1:p1 l i with
  |none=>obtain ⟨y1,j1,f1,a1,b1⟩:=(YP hb hl _ i0 i1).2 e1;simp only [f1,zzal0,jD hb hl j1 a1 b1];rw [y0 (hcap _)];exact ⟨j1,_,a1,b1,rfl⟩
  |some x1=>
   have s1:=Z9 hb i x1.1 x1.2 i0 i1 e1;rw [e1] at hr;cases e2:p1 l x1.2 with
   |none=>obtain ⟨y1,j1,f2,a1,b1⟩:=(YP hb hl _ s1.j0 s1.le).2 e2;simp only [(YP hb hl i i0 i1).1 x1.1 x1.2 e1,f2,zzal0];rw [y0 (hcap _)];exact ⟨j1,_,a1,b1,rfl⟩
   |some x2=>simp only [zzal0,e2] at hr;cases hr
 ·intro again m i b o h;unfold Zv nz;rcases h with rfl|rfl
  ·rfl
  ·simp only [yJ];cases decide (((m:Nat):Int)>0)<;>rfl
theorem ymS (k0:T_→Option R) (a:List yb) (n:Nat) (hn:n<300) (i:Int) (h0:0≤i) (h1:i≤(l.length:Int)):
  (∀ v j,many (pV l) n i=some (v,j)→ZT k0 (l,((n:Nat):Int),0,l,i,false,z,[],a,[],[])=k0 (l,0,l,j,false,z,[],a,[],v))∧(many (pV l) n i=none→ ∃ j v,0≤j∧j≤(l.length:Int)∧ZT k0 (l,((n:Nat):Int),0,l,i,false,z,[],a,[],[])=k0 (l,0,l,j,true,z,[],a,[],v)):=by
 unfold ZT;refine cH (step:=Zi k0) (rM hb) (fun m i b o=>(l,((m:Nat):Int),0,l,i,b,z,[],a,[],o)) (fun i b o=>k0 (l,0,l,i,b,z,[],a,[],o)) ?_ ?_ ?_ n hn i h0 h1
 ·intro again m i o x j hm i0 i1 ho hr;have hw:Go.IntKind.wrap .i64 (((m+1:Nat):Int) - 1)=((m:Nat):Int):=by
   rw [zb (by omega) (by omega)];omega
  unfold Zi nz;simp only [yG (show ((m+1:Nat):Int)>0 by omega),yg,Yd,zzal0,(M0 hb hl i i0 i1).1 x j hr,hw];rw [y0 (by simp only [yp,yr];omega)]
 ·intro again m i o hm i0 i1 ho hr;have hw:Go.IntKind.wrap .i64 (((m+1:Nat):Int) - 1)=((m:Nat):Int):=by
   rw [zb (by omega) (by omega)];omega
  obtain ⟨y,j,e,j0,j1⟩:=(M0 hb hl i i0 i1).2 hr;refine .inl ⟨j,y,j0,j1,?_⟩;unfold Zi nz;simp only [yG (show ((m+1:Nat):Int)>0 by omega),yg,Yd,zzal0,e,hw];rw [y0 (by simp only [yp,yr];omega)]
 ·intro again m i b o h;unfold Zi nz;rcases h with rfl|rfl
  ·rfl
  ·simp only [yJ];cases decide (((m:Nat):Int)>0)<;>rfl
theorem ybt (i:Int) (i0:0≤i) (i1:i≤(l.length:Int)):
  (∀ x j,pC l i=some (x,j)→ ∃ j1 j2,zQ (l,i,false)=some (x.1,l,j1,false)∧jp (l,j1,false)=some (x.2.1,l,j2,false)∧zQ (l,j2,false)=some (x.2.2,l,j,false))∧
  (pC l i=none→ ∃ y:ya,∃ j j1 b1 j2 b2,zQ (l,i,false)=some (y.1,l,j1,b1)∧jp (l,j1,b1)=some (y.2.1,l,j2,b2)∧zQ (l,j2,b2)=some (y.2.2,l,j,true)∧0≤j∧j≤(l.length:Int)):=by
 unfold pC;cases e1:p2 l i with
 |none=>obtain ⟨y1,j1,f1,a1,b1⟩:=(Vk hb hl _ i0 i1).2 e1;obtain ⟨y2,f2⟩:=Eg hb hl j1 a1 b1;exact ⟨fun x j h=>by (cases h),fun _=>⟨(y1,false,y2),j1,j1,true,j1,true,f1,FW hb hl j1 a1 b1,f2,a1,b1⟩⟩
 |some x1=>
  have f1:=(Vk hb hl _ i0 i1).1 x1.1 x1.2 e1;have s1:=ai hb _ x1.1 x1.2 i0 i1 e1;simp only [zzal0];cases e2:pF l x1.2 with
  |none=>obtain ⟨y1,j1,f2,a1,b1⟩:=(xL hb hl _ s1.j0 s1.le).2 e2;obtain ⟨y2,f3⟩:=Eg hb hl j1 a1 b1;exact ⟨fun x j h=>by (cases h),fun _=>⟨(x1.1,y1,y2),j1,x1.2,false,j1,true,f1,f2,f3,a1,b1⟩⟩
  |some x2=>
   have f2:=(xL hb hl _ s1.j0 s1.le).1 x2.1 x2.2 e2;have s2:=xJ hb _ x2.1 x2.2 s1.j0 s1.le e2;simp only [zzal0];cases e3:p2 l x2.2 with
   |none=>obtain ⟨y1,j1,f3,a1,b1⟩:=(Vk hb hl _ s2.j0 s2.le).2 e3;exact ⟨fun x j h=>by (cases h),fun _=>⟨(x1.1,x2.1,y1),j1,x1.2,false,x2.2,false,f1,f2,f3,a1,b1⟩⟩
   |some x3=>have f3:=(Vk hb hl _ s2.j0 s2.le).1 x3.1 x3.2 e3;refine ⟨fun x j h=> ?_,fun h=>by (cases h)⟩;simp only [zzal0] at h;injection h with h;injection h with h2 h3;subst h2 h3;exact ⟨x1.2,x2.2,f1,f2,f3⟩
theorem yjQ (k0:T_→Option R) (a:List yb) (v:List yj) (i:Int) (h0:0≤i) (h1:i≤(l.length:Int)):
  (∀ c j,many (pC l) 24 i=some (c,j)→ZU k0 (l,0,0,l,i,false,z,[],a,[],v)=k0 (l,0,l,j,false,z,[],a,c,v))∧(many (pC l) 24 i=none→ ∃ j c,0≤j∧j≤(l.length:Int)∧ZU k0 (l,0,0,l,i,false,z,[],a,[],v)=k0 (l,0,l,j,true,z,[],a,c,v)):=by
 unfold ZU;have hm:=cH (step:=Zj k0) (rN hb) (fun m i b o=>(l,24 - ((m:Nat):Int),0,l,i,b,z,[],a,o,v)) (fun i b o=>k0 (l,0,l,i,b,z,[],a,o,v)) ?_ ?_ ?_ 24 (by omega) i h0 h1
 ·exact hm
 ·intro again m i o x j hm i0 i1 ho hr;have hw:Go.IntKind.wrap .i64 (24 - ((m+1:Nat):Int)+1)=24 - ((m:Nat):Int):=by
   rw [zb (by omega) (by omega)];omega
  obtain ⟨j1,j2,f1,f2,f3⟩:=(ybt hb hl i i0 i1).1 x j hr;unfold Zj nz;simp only [yG (show 24 - ((m+1:Nat):Int)<24 by omega),yg,Yd,zzal0,f1,f2,f3,hw];rw [y0 (by simp only [yp,yr];omega)]
 ·intro again m i o hm i0 i1 ho hr;have hw:Go.IntKind.wrap .i64 (24 - ((m+1:Nat):Int)+1)=24 - ((m:Nat):Int):=by
   rw [zb (by omega) (by omega)];omega
  obtain ⟨y,j,j1,b1,j2,b2,f1,f2,f3,j0,jl⟩:=(ybt hb hl i i0 i1).2 hr;refine .inl ⟨j,y,j0,jl,?_⟩;unfold Zj nz;simp only [yG (show 24 - ((m+1:Nat):Int)<24 by omega),yg,Yd,zzal0,f1,f2,f3,hw];rw [y0 (by simp only [yp,yr];omega)]
 ·intro again m i b o h;unfold Zj nz;rcases h with rfl|rfl
  ·rfl
  ·simp only [yJ];cases decide (24 - ((m:Nat):Int)<24)<;>rfl
def FX (l:List Int) (z:Int) (a:List yb) (c:List ya) (v:List yj) (m:Nat) (i:Int) (b:Bool):List (Int×y6)→kc
 |[]=> .inl (l,((m:Nat):Int),0,l,i,b,z,[],a,c,v)
 |p::r=> .inr (l,((m:Nat):Int),0,l,i,b,z,(p::r).map Prod.fst,(p::r).map Prod.snd,a,c,v)
def Cg (k0:T_→Option R) (k1:S11→Option R) (l:List Int) (z:Int) (a:List yb) (c:List ya) (v:List yj) (i:Int) (b:Bool):List (Int×y6)→Option R
 |[]=>k0 (l,0,l,i,b,z,[],a,c,v)
 |p::r=>k1 (l,0,l,i,b,z,(p::r).map Prod.fst,(p::r).map Prod.snd,a,c,v)
theorem yjR (i:Int) (i0:0≤i) (i1:i≤(l.length:Int)):
  (∀ x j,pL l i=some (x,j)→ ∃ j1,zQ (l,i,false)=some (x.1,l,j1,false)∧Zh (l,j1,false)=some (x.2,l,j,false))∧
  (pL l i=none→ ∃ y:Int×y6,∃ j j1 b1,zQ (l,i,false)=some (y.1,l,j1,b1)∧Zh (l,j1,b1)=some (y.2,l,j,true)∧0≤j∧j≤(l.length:Int)):=by
 unfold pL;cases e1:p2 l i with
 |none=>obtain ⟨y1,j1,f1,a1,b1⟩:=(Vk hb hl _ i0 i1).2 e1;exact ⟨fun x j h=>by (cases h),fun _=>⟨(y1,[]),j1,j1,true,f1,TF hb hl j1 a1 b1,a1,b1⟩⟩
 |some x1=>
  have f1:=(Vk hb hl _ i0 i1).1 x1.1 x1.2 e1;have s1:=ai hb _ x1.1 x1.2 i0 i1 e1;simp only [zzal0];cases e2:pNd l x1.2 with
  |none=>obtain ⟨y1,j1,f2,a1,b1⟩:=(Eh hb hl _ s1.j0 s1.le).2 e2;exact ⟨fun x j h=>by (cases h),fun _=>⟨(x1.1,y1),j1,x1.2,false,f1,f2,a1,b1⟩⟩
  |some x2=>have f2:=(Eh hb hl _ s1.j0 s1.le).1 x2.1 x2.2 e2;refine ⟨fun x j h=> ?_,fun h=>by (cases h)⟩;simp only [zzal0] at h;injection h with h;injection h with h2 h3;subst h2 h3;exact ⟨x1.2,f1,f2⟩
theorem ymT (k0:T_→Option R) (k1:S11→Option R) (a:List yb) (v:List yj) (c:List ya) (n:Nat) (hn:n<300) (i:Int) (h0:0≤i) (h1:i≤(l.length:Int)):
  (∀ t j,many (pL l) n i=some (t,j)→ZV k0 k1 (Sum.inl (l,((n:Nat):Int),0,l,i,false,z,[],a,c,v))=Cg k0 k1 l z a c v j false t)∧(many (pL l) n i=none→ ∃ j t,0≤j∧j≤(l.length:Int)∧ZV k0 k1 (Sum.inl (l,((n:Nat):Int),0,l,i,false,z,[],a,c,v))=Cg k0 k1 l z a c v j true t):=by
 unfold ZV;refine cH (step:=Y8 k0 k1) (FV hb) (fun m i b o=>FX l z a c v m i b o) (fun i b o=>Cg k0 k1 l z a c v i b o) ?_ ?_ ?_ n hn i h0 h1
 ·intro again m i o x j hm i0 i1 ho hr;have hw:Go.IntKind.wrap .i64 (((m+1:Nat):Int) - 1)=((m:Nat):Int):=by
   rw [zb (by omega) (by omega)];omega
  obtain ⟨j1,f1,f2⟩:=(yjR hb hl i i0 i1).1 x j hr;cases o with
  |nil=>simp only [nz,FX,Y8,yG (show ((m+1:Nat):Int)>0 by omega),yg,Yd,zzal0,f1,f2,hw];rw [y0 (by simp only [yp,yr];omega),y0 (len1 _ _ (by decide))];rfl
  |cons p r=>simp only [nz,FX,Y8,yG (show ((m+1:Nat):Int)>0 by omega),yg,Yd,zzal0,f1,f2,hw];rw [y0 (by simp only [wV,yp,yr] at ho ⊢;omega),y0 (by simp only [wV,yp,yr] at ho ⊢;omega)];simp only [aK,FX,J7,nQ,gb]
 ·intro again m i o hm i0 i1 ho hr;have hw:Go.IntKind.wrap .i64 (((m+1:Nat):Int) - 1)=((m:Nat):Int):=by
   rw [zb (by omega) (by omega)];omega
  obtain ⟨y,j,j1,b1,f1,f2,j0,jl⟩:=(yjR hb hl i i0 i1).2 hr;refine .inl ⟨j,y,j0,jl,?_⟩;cases o with
  |nil=>simp only [nz,FX,Y8,yG (show ((m+1:Nat):Int)>0 by omega),yg,Yd,zzal0,f1,f2,hw];rw [y0 (by simp only [yp,yr];omega),y0 (len1 _ _ (by decide))];rfl
  |cons p r=>simp only [nz,FX,Y8,yG (show ((m+1:Nat):Int)>0 by omega),yg,Yd,zzal0,f1,f2,hw];rw [y0 (by simp only [wV,yp,yr] at ho ⊢;omega),y0 (by simp only [wV,yp,yr] at ho ⊢;omega)];simp only [aK,FX,J7,nQ,gb]
 ·intro again m i b o h;cases o with
  |nil=>
   simp only [nz,FX,Cg,Y8];rcases h with rfl|rfl
   ·rfl
   ·simp only [yJ];cases decide (((m:Nat):Int)>0)<;>rfl
  |cons p r=>
   simp only [nz,FX,Cg,Y8];rcases h with rfl|rfl
   ·rfl
   ·simp only [yJ];cases decide (((m:Nat):Int)>0)<;>rfl
theorem uE:wH l=some (rP l):=by
 have hsm:= @M3 l hb hl;have z0:(0:Int)≤(l.length:Int):=by omega
 unfold wH rP nz;unfold pP at hsm ⊢;cases e0:p2 l 0 with
 |none=>obtain ⟨y,j,f,a1,b1⟩:=(Vk hb hl 0 (yP _) z0).2 e0;simp only [f,zzal0,wT,jD hb hl j a1 b1,S3,rQ,mr,dN,yg];rfl
 |some z=>
  have f0:=(Vk hb hl 0 (yP _) z0).1 z.1 z.2 e0;have s0:=ai hb 0 z.1 z.2 (yP _) z0 e0;simp only [f0,e0,zzal0] at hsm ⊢;cases e1:p1 l z.2 with
  |none=>obtain ⟨y,j,f,a1,b1⟩:=(YP hb hl _ s0.j0 s0.le).2 e1;simp only [f,zzal0,wT,jD hb hl j a1 b1,S3,rQ,mr,dN,yg];rfl
  |some n1=>
   have f1:=(YP hb hl _ s0.j0 s0.le).1 n1.1 n1.2 e1;have s1:=Z9 hb _ n1.1 n1.2 s0.j0 s0.le e1;have c1:=cnt_lt hb (n:=n1.1) (j:=n1.2) e1;have g1:((n1.1.toNat:Nat):Int)=n1.1:=by omega
   simp only [f1,e1,zzal0] at hsm ⊢;have hA:=fun {R:Type} (k0:T_→Option R)=>sp4 hb hl z.1 k0 n1.1.toNat (by omega) n1.2 s1.j0 s1.le;simp only [g1] at hA;cases ea:many (pA l) n1.1.toNat n1.2 with
   |none=>obtain ⟨j,a,a1,b1,f⟩:=(hA _).2 ea;rw [f];simp only [zzal0,wT,jD hb hl j a1 b1,rQ,mr,dN,yg];rfl
   |some a=>
    have sa:=Ky (rL hb) _ _ a.1 a.2 s1.j0 s1.le ea;rw [(hA _).1 a.1 a.2 ea];simp only [ea,zzal0] at hsm ⊢;cases e2:p1 l a.2 with
    |none=>obtain ⟨y,j,f,a1,b1⟩:=(YP hb hl _ sa.j0 sa.le).2 e2;simp only [f,zzal0,wT,jD hb hl j a1 b1,rQ,mr,dN,yg];rfl
    |some n2=>
     have f2:=(YP hb hl _ sa.j0 sa.le).1 n2.1 n2.2 e2;have s2:=Z9 hb _ n2.1 n2.2 sa.j0 sa.le e2;have c2:=cnt_lt hb (n:=n2.1) (j:=n2.2) e2;have g2:((n2.1.toNat:Nat):Int)=n2.1:=by omega
     simp only [f2,e2,zzal0] at hsm ⊢;have hV:=fun {R:Type} (k0:T_→Option R)=>ymS hb hl z.1 k0 a.1 n2.1.toNat (by omega) n2.2 s2.j0 s2.le;simp only [g2] at hV;cases ev:many (pV l) n2.1.toNat n2.2 with
     |none=>obtain ⟨j,v,a1,b1,f⟩:=(hV _).2 ev;rw [f];simp only [zzal0,wT,jD hb hl j a1 b1,mr,dN,yg];rfl
     |some v=>
      have sv:=Ky (rM hb) _ _ v.1 v.2 s2.j0 s2.le ev;rw [(hV _).1 v.1 v.2 ev];simp only [ev,zzal0] at hsm ⊢;cases ec:many (pC l) 24 v.2 with
      |none=>obtain ⟨j,c,a1,b1,f⟩:=(yjQ hb hl z.1 _ a.1 v.1 v.2 sv.j0 sv.le).2 ec;rw [f];simp only [zzal0,wT,jD hb hl j a1 b1,dN,yg];rfl
      |some c=>
       have sc:=Ky (rN hb) _ _ c.1 c.2 sv.j0 sv.le ec;rw [(yjQ hb hl z.1 _ a.1 v.1 v.2 sv.j0 sv.le).1 c.1 c.2 ec];simp only [ec,zzal0] at hsm ⊢;cases e3:p1 l c.2 with
       |none=>obtain ⟨y,j,f,a1,b1⟩:=(YP hb hl _ sc.j0 sc.le).2 e3;simp only [f,zzal0,wT,jD hb hl j a1 b1,dN,yg];rfl
       |some n3=>
        have f3:=(YP hb hl _ sc.j0 sc.le).1 n3.1 n3.2 e3;have s3:=Z9 hb _ n3.1 n3.2 sc.j0 sc.le e3;have c3:=cnt_lt hb (n:=n3.1) (j:=n3.2) e3;have g3:((n3.1.toNat:Nat):Int)=n3.1:=by omega
        simp only [f3,e3,zzal0] at hsm ⊢;have hN:=fun {R:Type} (k0:T_→Option R) (k1:S11→Option R)=>ymT hb hl z.1 k0 k1 a.1 v.1 c.1 n3.1.toNat (by omega) n3.2 s3.j0 s3.le;simp only [g3] at hN;cases et:many (pL l) n3.1.toNat n3.2 with
        |none=>obtain ⟨j,t,a1,b1,f⟩:=(hN _ _).2 et;rw [f];cases t<;>rfl
        |some t=>
         rw [(hN _ _).1 t.1 t.2 et];simp only [et,zzal0] at hsm ⊢;obtain ⟨h1,h2,h3⟩:=hsm rfl;simp only at h1 h2 h3;have hP:=kT (t.1.map Prod.fst) (t.1.map Prod.snd) a.1 c.1 v.1 z.1 h2 h1.2.2.2.1 h1.2.2.2.2.1 h1.2.2.2.2.2 h3;generalize hq:t.1=ps at hP ⊢;by_cases hj:t.2=(l.length:Int)
         ·have hne:(t.2 !=((List.length l:Nat):Int))=false:=by simpa using hj
          cases hp:zc (ps.map Prod.fst) (ps.map Prod.snd) a.1 c.1 v.1 z.1 with
          |true=>
           rw [y0 ⟨hj,rfl⟩];rw [hp] at hP;cases ps with
           |nil=>simp only [Cg,yi,zzal0,hne];simp only [gb] at hP;simp only [hP,zzal0,yJ,yi];rfl
           |cons p r=>simp only [Cg,yi,zzal0,hne];simp only [hP,zzal0,yJ,yi]
          |false=>
           rw [y9 (fun h=>by (cases h.2))];rw [hp] at hP;cases ps with
           |nil=>simp only [Cg,yi,zzal0,hne];simp only [gb] at hP;simp only [hP,zzal0,Yd,yg];rfl
           |cons p r=>simp only [Cg,yi,zzal0,hne];simp only [hP,zzal0,Yd,yg];rfl
         ·have hne:(t.2 !=((List.length l:Nat):Int))=true:=by simpa using hj
          rw [y9 (fun h=>hj h.1)];cases ps with
          |nil=>simp only [Cg,yi,zzal0,hne,yg];rfl
          |cons p r=>simp only [Cg,yi,zzal0,hne,yg];rfl
end
section
variable {T A R:Type} {step:(T→Option R)→T→Option R} {l:List Int} {rd:Rd A} {enc:A→List Int}
theorem Ei (St:Nat→Int→Bool→List A→T) (k:Int→Bool→List A→Option R)
  (hbb: ∀ again m i o,m<300→0≤i→i≤(l.length:Int)→List.length o≤1000→ ∃ j y,0≤j∧j≤(l.length:Int)∧step again (St (m+1) i true o)=again (St m j true (o++[y])))
  (hstop: ∀ again i b o,step again (St 0 i b o)=k i b o):
  ∀ (n:Nat) (i:Int) (o:List A) (f:Nat),n<300→0≤i→i≤(l.length:Int)→List.length o+n≤1000→n+1≤f→ ∃ j o',0≤j∧j≤(l.length:Int)∧iter step f (St n i true o)=k j true o':=by
 intro n;induction n with
 |zero=>
  intro i o f _ i0 i1 _ hf;obtain ⟨f',rfl⟩: ∃ f',f=f'+1:=⟨f - 1,by omega⟩
  exact ⟨i,o,i0,i1,by rw [iter,hstop]⟩
 |succ n ih=>
  intro i o f hn i0 i1 ho hf;obtain ⟨f',rfl⟩: ∃ f',f=f'+1:=⟨f - 1,by omega⟩
  obtain ⟨j,y,j0,j1,e⟩:=hbb (iter step f') n i o (by omega) i0 i1 (by omega);rw [iter,e];exact ih j (o++[y]) f' (by omega) j0 j1 (by rw [yU];simp only [yp,yr];omega) (by omega)
theorem NH (hg:Good l rd enc) (St:Nat→Int→Bool→List A→T) (k:Int→Bool→List A→Option R)
  (hgo: ∀ again m i o x j,m<300→0≤i→i≤(l.length:Int)→List.length o≤1000→rd i=some (x,j)→step again (St (m+1) i false o)=again (St m j false (o++[x])))
  (hbad: ∀ again m i o,m<300→0≤i→i≤(l.length:Int)→List.length o≤1000→rd i=none→ ∃ j y,0≤j∧j≤(l.length:Int)∧step again (St (m+1) i false o)=again (St m j true (o++[y])))
  (hbb: ∀ again m i o,m<300→0≤i→i≤(l.length:Int)→List.length o≤1000→ ∃ j y,0≤j∧j≤(l.length:Int)∧step again (St (m+1) i true o)=again (St m j true (o++[y])))
  (hstop: ∀ again i b o,step again (St 0 i b o)=k i b o):
  ∀ (n:Nat) (i:Int) (o:List A) (f:Nat),n<300→0≤i→i≤(l.length:Int)→List.length o+n≤1000→n+1≤f→
   (∀ xs j,many rd n i=some (xs,j)→iter step f (St n i false o)=k j false (o++xs))∧(many rd n i=none→ ∃ j o',0≤j∧j≤(l.length:Int)∧iter step f (St n i false o)=k j true o'):=by
 intro n;induction n with
 |zero=>
  intro i o f _ i0 i1 _ hf;obtain ⟨f',rfl⟩: ∃ f',f=f'+1:=⟨f - 1,by omega⟩
  refine ⟨fun xs j h=> ?_,fun h=> ?_⟩
  ·unfold many at h;injection h with h;injection h with ha hb;subst ha hb;rw [iter,hstop,lu]
  ·unfold many at h;cases h
 |succ n ih=>
  intro i o f hn i0 i1 ho hf;obtain ⟨f',rfl⟩: ∃ f',f=f'+1:=⟨f - 1,by omega⟩
  rw [iter];unfold many;cases hr:rd i with
  |none=>refine ⟨fun xs j h=>by simp at h,fun _=> ?_⟩;obtain ⟨j,y,j0,j1,e⟩:=hbad (iter step f') n i o (by omega) i0 i1 (by omega) hr;rw [e];exact Ei St k hbb hstop n j _ f' (by omega) j0 j1 (by rw [yU];simp only [yp,yr];omega) (by omega)
  |some xj=>
   obtain ⟨x,j⟩:=xj;have hs:=hg i x j i0 i1 hr;obtain ⟨h1,h2⟩:=ih j (o++[x]) f' (by omega) hs.j0 hs.le (by rw [yU];simp only [yp,yr];omega) (by omega);rw [hgo _ n i o x j (by omega) i0 i1 (by omega) hr];simp only;cases hm:many rd n j with
   |none=>exact ⟨fun xs k h=>by simp at h,fun _=>h2 hm⟩
   |some yk=>obtain ⟨ys,k'⟩:=yk;refine ⟨fun xs k2 h=> ?_,fun h=>by simp at h⟩;simp only at h;injection h with h;injection h with ha hb;subst ha hb;rw [h1 ys k' hm,jF];rfl
theorem Qv (hg:Good l rd enc) (St:Nat→Int→Bool→List A→T) (k:Int→Bool→List A→Option R)
  (hgo: ∀ again m i o x j,m<300→0≤i→i≤(l.length:Int)→List.length o≤1000→rd i=some (x,j)→step again (St (m+1) i false o)=again (St m j false (o++[x])))
  (hbad: ∀ again m i o,m<300→0≤i→i≤(l.length:Int)→List.length o≤1000→rd i=none→ ∃ j y,0≤j∧j≤(l.length:Int)∧step again (St (m+1) i false o)=again (St m j true (o++[y])))
  (hbb: ∀ again m i o,m<300→0≤i→i≤(l.length:Int)→List.length o≤1000→ ∃ j y,0≤j∧j≤(l.length:Int)∧step again (St (m+1) i true o)=again (St m j true (o++[y])))
  (hstop: ∀ again i b o,step again (St 0 i b o)=k i b o) (n:Nat) (hn:n<300) (i:Int) (i0:0≤i) (i1:i≤(l.length:Int)):
  ((∀ xs j,many rd n i=some (xs,j)→iter step FUEL (St n i false [])=k j false xs)∧(many rd n i=none→ ∃ j o',0≤j∧j≤(l.length:Int)∧iter step FUEL (St n i false [])=k j true o'))∧
  ∃ j o',0≤j∧j≤(l.length:Int)∧iter step FUEL (St n i true [])=k j true o':=by
 have h1:=NH hg St k hgo hbad hbb hstop n i [] FUEL hn i0 i1 (by simp;omega) (by rw [Zz];omega);have h2:=Ei St k hbb hstop n i [] FUEL hn i0 i1 (by simp;omega) (by rw [Zz];omega);exact ⟨by simpa using h1,h2⟩
end
section
variable {l:List Int} (hb:isBytes l) (hl:l.length≤1048576)
include hb hl
theorem vL (i:Int) (h0:0≤i) (h1:i<(l.length:Int)):yq (l,i,false)=some (wN l i,l,i+1,false):=by rw [BE l i false hb (by omega) h0 (by omega),y0 ⟨rfl,h1⟩]
theorem WL (i:Int) (h0:0≤i) (h1:i=(l.length:Int)):yq (l,i,false)=some (0,l,i,true):=by rw [BE l i false hb (by omega) h0 (by omega),y9 (fun h=>by have:=h.2;omega)]
theorem Yy (i:Int) (h0:0≤i) (h1:i≤(l.length:Int)):yq (l,i,true)=some (0,l,i,true):=y4R l i hb (by omega) h0 (by omega)
theorem JN (i:Int) (h0:0≤i) (h1:i≤(l.length:Int)):Sim l (p1 l i) (yq (l,i,false)):=by
 unfold p1;by_cases ha:i<(l.length:Int)
 ·rw [y0 ha,vL hb hl i h0 ha];refine ⟨fun x j h=> ?_,fun h=>by (cases h)⟩;injection h with h;injection h with h2 h3;subst h2 h3;rfl
 ·rw [y9 ha,WL hb hl i h0 (by omega)];exact ⟨fun x j h=>by (cases h),fun _=>⟨_,_,rfl,h0,h1⟩⟩
theorem WV (i:Int) (h0:0≤i) (h1:i≤(l.length:Int)):yz (l,i,true)=some (0,l,i,true):=y26 l i hb (by omega) h0 (by omega)
theorem Vl (i:Int) (h0:0≤i) (h1:i≤(l.length:Int)):Sim l (p2 l i) (yz (l,i,false)):=by
 rw [gX l i false hb (by omega) h0 (by omega)];unfold p2;by_cases ha:i+2≤(l.length:Int)
 ·rw [y0 ha,y0 ⟨rfl,ha⟩];refine ⟨fun x j h=> ?_,fun h=>by (cases h)⟩;injection h with h;injection h with h2 h3;subst h2 h3;rfl
 ·rw [y9 ha,y9 (fun h=>ha h.2)];exact ⟨fun x j h=>by (cases h),fun _=>⟨_,_,rfl,h0,h1⟩⟩
theorem cI (i:Int) (h0:0≤i) (h1:i≤(l.length:Int)):zU (l,i,true)=some (false,l,i,true):=by unfold zU nz;simp only [Yy hb hl i h0 h1,zzal0];rfl
theorem mZ (i:Int) (h0:0≤i) (h1:i≤(l.length:Int)):Sim l (pF l i) (zU (l,i,false)):=by
 unfold zU pF nz;by_cases ha:i<(l.length:Int)
 ·simp only [vL hb hl i h0 ha,zzal0];by_cases hc:wN l i≤1
  ·rw [y0 ⟨ha,hc⟩,yX (show ¬ wN l i>1 by omega)];refine ⟨fun x j h=> ?_,fun h=>by (cases h)⟩;injection h with h;injection h with h2 h3;subst h2 h3;rfl
  ·rw [y9 (fun h=>hc h.2),yG (show wN l i>1 by omega)];exact ⟨fun x j h=>by (cases h),fun _=>⟨_,_,rfl,by omega,by omega⟩⟩
 ·rw [y9 (fun h=>ha h.1)];simp only [WL hb hl i h0 (by omega),zzal0];exact ⟨fun x j h=>by (cases h),fun _=>⟨_,_,rfl,by omega,by omega⟩⟩
theorem M4 (i:Int) (h0:0≤i) (h1:i≤(l.length:Int)):za (l,i,true)=some (0,0,0,0,0,l,i,true):=by unfold za nz;simp only [Yy hb hl i h0 h1,WV hb hl i h0 h1,zzal0,yg]
theorem rR (i:Int) (h0:0≤i) (h1:i≤(l.length:Int)):
  (∀ x j,pK l i=some (x,j)→za (l,i,false)=some (x.1,x.2.1,x.2.2.1,x.2.2.2.1,x.2.2.2.2,l,j,false))∧(pK l i=none→ ∃ y:y7,∃ j,za (l,i,false)=some (y.1,y.2.1,y.2.2.1,y.2.2.2.1,y.2.2.2.2,l,j,true)∧0≤j∧j≤(l.length:Int)):=by
 have no: ∀ j,0≤j→j≤(l.length:Int)→pK l i=none→za (l,i,false)=some (0,0,0,0,0,l,j,true)→(∀ x j,pK l i=some (x,j)→za (l,i,false)=some (x.1,x.2.1,x.2.2.1,x.2.2.2.1,x.2.2.2.2,l,j,false))∧(pK l i=none→ ∃ y:y7,∃ j,za (l,i,false)=some (y.1,y.2.1,y.2.2.1,y.2.2.2.1,y.2.2.2.2,l,j,true)∧0≤j∧j≤(l.length:Int)):=fun j j0 j1 hn he=>⟨fun x j h=>by (rw [hn] at h;cases h),fun _=>⟨(0,0,0,0,0),j,he,j0,j1⟩⟩
 have far: ¬ i+6≤(l.length:Int)→pK l i=none:=fun h=>by unfold pK;rw [y9 (fun hh=>h hh.1)]
 by_cases a1:i<(l.length:Int)
 ·by_cases a2:i+1<(l.length:Int)
  ·by_cases a3:i+2<(l.length:Int)
   ·by_cases a4:i+3<(l.length:Int)
    ·have e1:=vL hb hl i h0 a1;have e2:=vL hb hl (i+1) (by omega) a2;have e3:=vL hb hl (i+2) (by omega) a3;have e4:=vL hb hl (i+3) (by omega) a4;rw [show i+1+1=i+2 by omega] at e2;rw [show i+2+1=i+3 by omega] at e3;rw [show i+3+1=i+4 by omega] at e4;have e5:=gX l (i+4) false hb (by omega) (by omega) (by omega);by_cases a5:i+6≤(l.length:Int)
     ·rw [y0 ⟨rfl,by omega⟩,show i+4+2=i+6 by omega] at e5;cases hk:Yz (wN l i,wN l (i+1),wN l (i+2),wN l (i+3),w2 l (i+4)) with
      |false=>
       refine no (i+6) (by omega) (by omega) ?_ ?_
       ·unfold pK;rw [y9 (fun h=>by rw [show Yz (LZ l i)=false from hk] at h;cases h.2)]
       ·unfold za nz;simp only [e1,e2,e3,e4,e5,zzal0,ag,hk,yi,Yd,yg]
      |true=>have hp:pK l i=some (LZ l i,i+6):=y0 ⟨a5,hk⟩;rw [hp];refine ⟨fun x j h=> ?_,fun h=>by (cases h)⟩;injection h with h;injection h with h2 h3;subst h2 h3;unfold za nz;simp only [e1,e2,e3,e4,e5,zzal0,ag,hk,yi,yJ];rfl
     ·rw [y9 (fun h=>by have:=h.2;omega)] at e5;refine no (i+4) (by omega) (by omega) (far a5) ?_;unfold za nz;simp only [e1,e2,e3,e4,e5,zzal0,yg]
    ·have e1:=vL hb hl i h0 a1;have e2:=vL hb hl (i+1) (by omega) a2;have e3:=vL hb hl (i+2) (by omega) a3;have e4:=WL hb hl (i+3) (by omega) (by omega);rw [show i+1+1=i+2 by omega] at e2;rw [show i+2+1=i+3 by omega] at e3;refine no (i+3) (by omega) (by omega) (far (by omega)) ?_;unfold za nz;simp only [e1,e2,e3,e4,WV hb hl (i+3) (by omega) (by omega),zzal0,yg]
   ·have e1:=vL hb hl i h0 a1;have e2:=vL hb hl (i+1) (by omega) a2;have e3:=WL hb hl (i+2) (by omega) (by omega);rw [show i+1+1=i+2 by omega] at e2;refine no (i+2) (by omega) (by omega) (far (by omega)) ?_;unfold za nz;simp only [e1,e2,e3,Yy hb hl (i+2) (by omega) (by omega),WV hb hl (i+2) (by omega) (by omega),zzal0,yg]
  ·have e1:=vL hb hl i h0 a1;have e2:=WL hb hl (i+1) (by omega) (by omega);refine no (i+1) (by omega) (by omega) (far (by omega)) ?_;unfold za nz;simp only [e1,e2,Yy hb hl (i+1) (by omega) (by omega),WV hb hl (i+1) (by omega) (by omega),zzal0,yg]
 ·have e1:=WL hb hl i h0 (by omega);refine no i h0 h1 (far (by omega)) ?_;unfold za nz;simp only [e1,Yy hb hl i h0 h1,WV hb hl i h0 h1,zzal0,yg]
end
theorem m_ {l:List Int} {i:Int} (h1:i≤(l.length:Int)) (h:p1 l i=none):i=(l.length:Int):=by
 unfold p1 at h;split at h
 ·cases h
 ·omega
theorem wK (N m:Nat):decide (((N:Nat):Int) - ((m+1:Nat):Int)<((N:Nat):Int))=true:=yG (by omega)
theorem rS (N:Nat):decide (((N:Nat):Int) - ((0:Nat):Int)<((N:Nat):Int))=false:=yX (by omega)
theorem ji (N m:Nat) (hN:N<1000) (hm:m<300):Go.IntKind.wrap .i64 (((N:Nat):Int) - ((m+1:Nat):Int)+1)=((N:Nat):Int) - ((m:Nat):Int):=by rw [zb (by omega) (by omega)];omega
section
variable {R:Type} {l:List Int} (hb:isBytes l) (hl:l.length≤1048576)
include hb hl
abbrev K6:Type:=Int×Int×List yn×Int×Bool×List y7
abbrev K7:Type:=Int×Int×List yn×Int×Bool×List y7×List yc
theorem yjS (k0:K6→Option R) (k1:K7→Option R) (n c:Int) (N:Nat) (hN:N<300) (i:Int) (h0:0≤i) (h1:i≤(l.length:Int)):
  ((∀ x j,many (pK l) N i=some (x,j)→yV k0 k1 (Sum.inl (n,c,((N:Nat):Int),0,l,i,false,[]))=k0 (n,c,l,j,false,x))∧(many (pK l) N i=none→ ∃ j x,0≤j∧j≤(l.length:Int)∧yV k0 k1 (Sum.inl (n,c,((N:Nat):Int),0,l,i,false,[]))=k0 (n,c,l,j,true,x)))∧
  ∃ j x,0≤j∧j≤(l.length:Int)∧yV k0 k1 (Sum.inl (n,c,((N:Nat):Int),0,l,i,true,[]))=k0 (n,c,l,j,true,x):=by
 unfold yV;have:=Qv (step:=zp k0 k1) (xK hb) (fun m i b o=> .inl (n,c,((N:Nat):Int),((N:Nat):Int) - ((m:Nat):Int),l,i,b,o)) (fun i b o=>k0 (n,c,l,i,b,o)) ?_ ?_ ?_ ?_ N hN i h0 h1
 ·rw [show ((N:Nat):Int) - ((N:Nat):Int)=0 by omega] at this;exact this
 ·intro again m i o x j hm i0 i1 ho hr;simp only [nz,zp,wK,ji N m (by omega) hm,yg,zzal0,(rR hb hl i i0 i1).1 x j hr];rw [y0 (by simp only [yp,yr];omega)]
 ·intro again m i o hm i0 i1 ho hr;obtain ⟨y,j,e,j0,j1⟩:=(rR hb hl i i0 i1).2 hr;refine ⟨j,y,j0,j1,?_⟩;simp only [nz,zp,wK,ji N m (by omega) hm,yg,zzal0,e];rw [y0 (by simp only [yp,yr];omega)]
 ·intro again m i o hm i0 i1 ho;refine ⟨i,(0,0,0,0,0),i0,i1,?_⟩;simp only [nz,zp,wK,ji N m (by omega) hm,yg,zzal0,M4 hb hl i i0 i1];rw [y0 (by simp only [yp,yr];omega)]
 ·intro again i b o;simp only [nz,zp,rS,yi]
theorem yjT (k0:K6→Option R) (k1:K7→Option R) (n c:Int) (ss:List yc) (N:Nat) (hN:N<300) (i:Int) (h0:0≤i) (h1:i≤(l.length:Int)):
  ((∀ x j,many (pK l) N i=some (x,j)→yV k0 k1 (Sum.inr (n,c,((N:Nat):Int),0,l,i,false,[],ss))=k1 (n,c,l,j,false,x,ss))∧(many (pK l) N i=none→ ∃ j x,0≤j∧j≤(l.length:Int)∧yV k0 k1 (Sum.inr (n,c,((N:Nat):Int),0,l,i,false,[],ss))=k1 (n,c,l,j,true,x,ss)))∧
  ∃ j x,0≤j∧j≤(l.length:Int)∧yV k0 k1 (Sum.inr (n,c,((N:Nat):Int),0,l,i,true,[],ss))=k1 (n,c,l,j,true,x,ss):=by
 unfold yV;have:=Qv (step:=zp k0 k1) (xK hb) (fun m i b o=> .inr (n,c,((N:Nat):Int),((N:Nat):Int) - ((m:Nat):Int),l,i,b,o,ss)) (fun i b o=>k1 (n,c,l,i,b,o,ss)) ?_ ?_ ?_ ?_ N hN i h0 h1
 ·rw [show ((N:Nat):Int) - ((N:Nat):Int)=0 by omega] at this;exact this
 ·intro again m i o x j hm i0 i1 ho hr;simp only [nz,zp,wK,ji N m (by omega) hm,yg,zzal0,(rR hb hl i i0 i1).1 x j hr];rw [y0 (by simp only [yp,yr];omega)]
 ·intro again m i o hm i0 i1 ho hr;obtain ⟨y,j,e,j0,j1⟩:=(rR hb hl i i0 i1).2 hr;refine ⟨j,y,j0,j1,?_⟩;simp only [nz,zp,wK,ji N m (by omega) hm,yg,zzal0,e];rw [y0 (by simp only [yp,yr];omega)]
 ·intro again m i o hm i0 i1 ho;refine ⟨i,(0,0,0,0,0),i0,i1,?_⟩;simp only [nz,zp,wK,ji N m (by omega) hm,yg,zzal0,M4 hb hl i i0 i1];rw [y0 (by simp only [yp,yr];omega)]
 ·intro again i b o;simp only [nz,zp,rS,yi]
theorem y2K (k0:K6→Option R) (k1:K7→Option R) (n c:Int) (i:Int) (h0:0≤i) (h1:i≤(l.length:Int)):
  ((∀ x j,pS l i=some (x,j)→(Option.bind (yq (l,i,false)) fun r2=>yV k0 k1 (Sum.inl (n,c,r2.1,0,r2.2.1,r2.2.2.1,r2.2.2.2,[])))=k0 (n,c,l,j,false,x))∧(pS l i=none→ ∃ j x,0≤j∧j≤(l.length:Int)∧(Option.bind (yq (l,i,false)) fun r2=>yV k0 k1 (Sum.inl (n,c,r2.1,0,r2.2.1,r2.2.2.1,r2.2.2.2,[])))=k0 (n,c,l,j,true,x)))∧
  ∃ j x,0≤j∧j≤(l.length:Int)∧(Option.bind (yq (l,i,true)) fun r2=>yV k0 k1 (Sum.inl (n,c,r2.1,0,r2.2.1,r2.2.2.1,r2.2.2.2,[])))=k0 (n,c,l,j,true,x):=by
 have hbad:=(yjS hb hl k0 k1 n c 0 (by omega) i h0 h1).2;refine ⟨?_,?_⟩
 ·unfold pS;cases e1:p1 l i with
  |none=>simp only [WL hb hl i h0 (m_ h1 e1),zzal0,wT];exact ⟨fun x j h=>by (cases h),fun _=>hbad⟩
  |some x1=>have c1:=cnt_lt hb (n:=x1.1) (j:=x1.2) e1;have s1:=Z9 hb i x1.1 x1.2 h0 h1 e1;have:=(yjS hb hl k0 k1 n c x1.1.toNat (by omega) x1.2 s1.j0 s1.le).1;rw [show ((x1.1.toNat:Nat):Int)=x1.1 by omega] at this;simp only [(JN hb hl i h0 h1).1 x1.1 x1.2 e1,zzal0];exact this
 ·simp only [Yy hb hl i h0 h1,zzal0];exact hbad
theorem y2L (k0:K6→Option R) (k1:K7→Option R) (n c:Int) (ss:List yc) (i:Int) (h0:0≤i) (h1:i≤(l.length:Int)):
  ((∀ x j,pS l i=some (x,j)→(Option.bind (yq (l,i,false)) fun r2=>yV k0 k1 (Sum.inr (n,c,r2.1,0,r2.2.1,r2.2.2.1,r2.2.2.2,[],ss)))=k1 (n,c,l,j,false,x,ss))∧(pS l i=none→ ∃ j x,0≤j∧j≤(l.length:Int)∧(Option.bind (yq (l,i,false)) fun r2=>yV k0 k1 (Sum.inr (n,c,r2.1,0,r2.2.1,r2.2.2.1,r2.2.2.2,[],ss)))=k1 (n,c,l,j,true,x,ss)))∧
  ∃ j x,0≤j∧j≤(l.length:Int)∧(Option.bind (yq (l,i,true)) fun r2=>yV k0 k1 (Sum.inr (n,c,r2.1,0,r2.2.1,r2.2.2.1,r2.2.2.2,[],ss)))=k1 (n,c,l,j,true,x,ss):=by
 have hbad:=(yjT hb hl k0 k1 n c ss 0 (by omega) i h0 h1).2;refine ⟨?_,?_⟩
 ·unfold pS;cases e1:p1 l i with
  |none=>simp only [WL hb hl i h0 (m_ h1 e1),zzal0,wT];exact ⟨fun x j h=>by (cases h),fun _=>hbad⟩
  |some x1=>have c1:=cnt_lt hb (n:=x1.1) (j:=x1.2) e1;have s1:=Z9 hb i x1.1 x1.2 h0 h1 e1;have:=(yjT hb hl k0 k1 n c ss x1.1.toNat (by omega) x1.2 s1.j0 s1.le).1;rw [show ((x1.1.toNat:Nat):Int)=x1.1 by omega] at this;simp only [(JN hb hl i h0 h1).1 x1.1 x1.2 e1,zzal0];exact this
 ·simp only [Yy hb hl i h0 h1,zzal0];exact hbad
omit hb hl
def Ch (N:Nat) (l:List Int) (m:Nat) (i:Int) (b:Bool):List yc→JJ
 |[]=> .inl (((N:Nat):Int),((N:Nat):Int) - ((m:Nat):Int),l,i,b)
 |a::r=> .inr (((N:Nat):Int),((N:Nat):Int) - ((m:Nat):Int),l,i,b,a::r)
include hb hl
theorem y2M (N:Nat) (hN:N<300) (i:Int) (h0:0≤i) (h1:i≤(l.length:Int)):
  ((∀ x j,many (pS l) N i=some (x,j)→ZI (fun NI=>some (([]:List yc),NI.1,NI.2.1,NI.2.2)) (fun FY=>some (FY.2.2.2,FY.1,FY.2.1,FY.2.2.1)) (Sum.inl (((N:Nat):Int),0,l,i,false))=some (x,l,j,false))∧(many (pS l) N i=none→ ∃ j x,0≤j∧j≤(l.length:Int)∧ZI (fun NI=>some (([]:List yc),NI.1,NI.2.1,NI.2.2)) (fun FY=>some (FY.2.2.2,FY.1,FY.2.1,FY.2.2.1)) (Sum.inl (((N:Nat):Int),0,l,i,false))=some (x,l,j,true)))∧
  ∃ j x,0≤j∧j≤(l.length:Int)∧ZI (fun NI=>some (([]:List yc),NI.1,NI.2.1,NI.2.2)) (fun FY=>some (FY.2.2.2,FY.1,FY.2.1,FY.2.2.1)) (Sum.inl (((N:Nat):Int),0,l,i,true))=some (x,l,j,true):=by
 unfold ZI;have:=Qv (step:=zI (fun NI=>some (([]:List yc),NI.1,NI.2.1,NI.2.2)) (fun FY=>some (FY.2.2.2,FY.1,FY.2.1,FY.2.2.1))) (FU hb) (fun m i b o=>Ch N l m i b o) (fun i b o=>some (o,l,i,b)) ?_ ?_ ?_ ?_ N hN i h0 h1
 ·have e0: ∀ b,Ch N l N i b []= .inl (((N:Nat):Int),0,l,i,b):=fun b=>by
   unfold Ch;rw [show ((N:Nat):Int) - ((N:Nat):Int)=0 by omega]
  rw [e0,e0] at this;exact this
 ·intro again m i o x j hm i0 i1 ho hr;cases o with
  |nil=>simp only [nz,Ch,zI,wK,ji N m (by omega) hm,yg];rw [(y2K hb hl _ _ _ _ i i0 i1).1.1 x j hr];simp only [ji N m (by omega) hm];rw [y0 (len1 _ _ (by decide))];rfl
  |cons a r=>simp only [nz,Ch,zI,wK,ji N m (by omega) hm,yg];rw [(y2L hb hl _ _ _ _ (a::r) i i0 i1).1.1 x j hr];simp only [ji N m (by omega) hm];rw [y0 (by simp only [yp,yr] at ho ⊢;omega)];rfl
 ·intro again m i o hm i0 i1 ho hr;cases o with
  |nil=>simp only [nz,Ch,zI,wK,ji N m (by omega) hm,yg];obtain ⟨j,x,j0,j1,e⟩:=(y2K hb hl (fun x5=>if List.length ([x5.2.2.2.2.2]:List yc)*24<140737488355328 then again (Sum.inr (x5.1,(Go.IntKind.wrap .i64 (x5.2.1+(1:Int))),x5.2.2.1,x5.2.2.2.1,x5.2.2.2.2.1,([x5.2.2.2.2.2]:List yc))) else none) (fun x6=>if (List.length x6.2.2.2.2.2.2+List.length ([x6.2.2.2.2.2.1]:List yc))*24<140737488355328 then again (Sum.inr (x6.1,(Go.IntKind.wrap .i64 (x6.2.1+(1:Int))),x6.2.2.1,x6.2.2.2.1,x6.2.2.2.2.1,(x6.2.2.2.2.2.2++([x6.2.2.2.2.2.1]:List yc)))) else none) ((N:Nat):Int) (((N:Nat):Int) - ((m+1:Nat):Int)) i i0 i1).1.2 hr;refine ⟨j,x,j0,j1,?_⟩;rw [e];simp only [ji N m (by omega) hm];rw [y0 (len1 _ _ (by decide))];rfl
  |cons a r=>simp only [nz,Ch,zI,wK,ji N m (by omega) hm,yg];obtain ⟨j,x,j0,j1,e⟩:=(y2L hb hl (fun x5=>if List.length ([x5.2.2.2.2.2]:List yc)*24<140737488355328 then again (Sum.inr (x5.1,(Go.IntKind.wrap .i64 (x5.2.1+(1:Int))),x5.2.2.1,x5.2.2.2.1,x5.2.2.2.2.1,([x5.2.2.2.2.2]:List yc))) else none) (fun x6=>if (List.length x6.2.2.2.2.2.2+List.length ([x6.2.2.2.2.2.1]:List yc))*24<140737488355328 then again (Sum.inr (x6.1,(Go.IntKind.wrap .i64 (x6.2.1+(1:Int))),x6.2.2.1,x6.2.2.2.1,x6.2.2.2.2.1,(x6.2.2.2.2.2.2++([x6.2.2.2.2.2.1]:List yc)))) else none) ((N:Nat):Int) (((N:Nat):Int) - ((m+1:Nat):Int)) (a::r) i i0 i1).1.2 hr;refine ⟨j,x,j0,j1,?_⟩;rw [e];simp only [ji N m (by omega) hm];rw [y0 (by simp only [yp,yr] at ho ⊢;omega)];rfl
 ·intro again m i o hm i0 i1 ho;cases o with
  |nil=>simp only [nz,Ch,zI,wK,ji N m (by omega) hm,yg];obtain ⟨j,x,j0,j1,e⟩:=(y2K hb hl (fun x5=>if List.length ([x5.2.2.2.2.2]:List yc)*24<140737488355328 then again (Sum.inr (x5.1,(Go.IntKind.wrap .i64 (x5.2.1+(1:Int))),x5.2.2.1,x5.2.2.2.1,x5.2.2.2.2.1,([x5.2.2.2.2.2]:List yc))) else none) (fun x6=>if (List.length x6.2.2.2.2.2.2+List.length ([x6.2.2.2.2.2.1]:List yc))*24<140737488355328 then again (Sum.inr (x6.1,(Go.IntKind.wrap .i64 (x6.2.1+(1:Int))),x6.2.2.1,x6.2.2.2.1,x6.2.2.2.2.1,(x6.2.2.2.2.2.2++([x6.2.2.2.2.2.1]:List yc)))) else none) ((N:Nat):Int) (((N:Nat):Int) - ((m+1:Nat):Int)) i i0 i1).2;refine ⟨j,x,j0,j1,?_⟩;rw [e];simp only [ji N m (by omega) hm];rw [y0 (len1 _ _ (by decide))];rfl
  |cons a r=>simp only [nz,Ch,zI,wK,ji N m (by omega) hm,yg];obtain ⟨j,x,j0,j1,e⟩:=(y2L hb hl (fun x5=>if List.length ([x5.2.2.2.2.2]:List yc)*24<140737488355328 then again (Sum.inr (x5.1,(Go.IntKind.wrap .i64 (x5.2.1+(1:Int))),x5.2.2.1,x5.2.2.2.1,x5.2.2.2.2.1,([x5.2.2.2.2.2]:List yc))) else none) (fun x6=>if (List.length x6.2.2.2.2.2.2+List.length ([x6.2.2.2.2.2.1]:List yc))*24<140737488355328 then again (Sum.inr (x6.1,(Go.IntKind.wrap .i64 (x6.2.1+(1:Int))),x6.2.2.1,x6.2.2.2.1,x6.2.2.2.2.1,(x6.2.2.2.2.2.2++([x6.2.2.2.2.2.1]:List yc)))) else none) ((N:Nat):Int) (((N:Nat):Int) - ((m+1:Nat):Int)) (a::r) i i0 i1).2;refine ⟨j,x,j0,j1,?_⟩;rw [e];simp only [ji N m (by omega) hm];rw [y0 (by simp only [yp,yr] at ho ⊢;omega)];rfl
 ·intro again i b o;cases o with
  |nil=>simp only [nz,Ch,zI,rS,yi]
  |cons a r=>simp only [nz,Ch,zI,rS,yi]
theorem n6 (i:Int) (h0:0≤i) (h1:i≤(l.length:Int)):Sim l (pNd l i) (Yf (l,i,false))∧ ∃ y j,Yf (l,i,true)=some (y,l,j,true)∧0≤j∧j≤(l.length:Int):=by
 obtain ⟨jb,xb,jb0,jb1,eb⟩:=(y2M hb hl 0 (by omega) i h0 h1).2;refine ⟨?_,?_⟩
 ·unfold Yf pNd nz;cases e1:p1 l i with
  |none=>simp only [WL hb hl i h0 (m_ h1 e1),zzal0,wT];exact ⟨fun x j h=>by (cases h),fun _=>⟨xb,jb,eb,jb0,jb1⟩⟩
  |some x1=>have c1:=cnt_lt hb (n:=x1.1) (j:=x1.2) e1;have s1:=Z9 hb i x1.1 x1.2 h0 h1 e1;have:=(y2M hb hl x1.1.toNat (by omega) x1.2 s1.j0 s1.le).1;rw [show ((x1.1.toNat:Nat):Int)=x1.1 by omega] at this;simp only [(JN hb hl i h0 h1).1 x1.1 x1.2 e1,zzal0];refine ⟨this.1,fun h=> ?_⟩;obtain ⟨j,x,j0,j1,e⟩:=this.2 h;exact ⟨x,j,e,j0,j1⟩
 ·unfold Yf nz;simp only [Yy hb hl i h0 h1,zzal0];exact ⟨xb,jb,eb,jb0,jb1⟩
end
abbrev S9:Type:=List yn×Int×Bool×Int×Int×List yf×List yb×List ya×List yj
abbrev S9n:Type:=List yn×Int×Bool×Int×Int×List yf×List y6×List yb×List ya×List yj
section
variable {R:Type} {l:List Int} (hb:isBytes l) (hl:l.length≤1048576) (z:Int)
include hb hl
theorem yjU (i:Int) (i0:0≤i) (i1:i≤(l.length:Int)):
  (∀ x j,pA l i=some (x,j)→ ∃ j1,yq (l,i,false)=some (x.1,l,j1,false)∧yq (l,j1,false)=some (x.2,l,j,false))∧
  (pA l i=none→ ∃ y:yb,∃ j j1 b1,yq (l,i,false)=some (y.1,l,j1,b1)∧yq (l,j1,b1)=some (y.2,l,j,true)∧0≤j∧j≤(l.length:Int)):=by
 unfold pA;cases e1:p1 l i with
 |none=>obtain ⟨y1,j1,f1,a1,b1⟩:=(JN hb hl _ i0 i1).2 e1;exact ⟨fun x j h=>by (cases h),fun _=>⟨(y1,0),j1,j1,true,f1,Yy hb hl j1 a1 b1,a1,b1⟩⟩
 |some x1=>
  have f1:=(JN hb hl _ i0 i1).1 x1.1 x1.2 e1;have s1:=Z9 hb _ x1.1 x1.2 i0 i1 e1;simp only [zzal0];cases e2:p1 l x1.2 with
  |none=>obtain ⟨y1,j1,f2,a1,b1⟩:=(JN hb hl _ s1.j0 s1.le).2 e2;exact ⟨fun x j h=>by (cases h),fun _=>⟨(x1.1,y1),j1,x1.2,false,f1,f2,a1,b1⟩⟩
  |some x2=>have f2:=(JN hb hl _ s1.j0 s1.le).1 x2.1 x2.2 e2;refine ⟨fun x j h=> ?_,fun h=>by (cases h)⟩;simp only [zzal0] at h;injection h with h;injection h with h2 h3;subst h2 h3;exact ⟨x1.2,f1,f2⟩
theorem ip5 (k0:S9→Option R) (N:Nat) (hN:N<300) (i:Int) (h0:0≤i) (h1:i≤(l.length:Int)):
  ((∀ a j,many (pA l) N i=some (a,j)→Z6 k0 (((N:Nat):Int),0,l,i,false,0,z,[],[],[],[])=k0 (l,j,false,0,z,[],a,[],[]))∧(many (pA l) N i=none→ ∃ j a,0≤j∧j≤(l.length:Int)∧Z6 k0 (((N:Nat):Int),0,l,i,false,0,z,[],[],[],[])=k0 (l,j,true,0,z,[],a,[],[])))∧
  ∃ j a,0≤j∧j≤(l.length:Int)∧Z6 k0 (((N:Nat):Int),0,l,i,true,0,z,[],[],[],[])=k0 (l,j,true,0,z,[],a,[],[]):=by
 unfold Z6;have:=Qv (step:=YE k0) (rL hb) (fun m i b o=>(((N:Nat):Int),((N:Nat):Int) - ((m:Nat):Int),l,i,b,0,z,[],o,[],[])) (fun i b o=>k0 (l,i,b,0,z,[],o,[],[])) ?_ ?_ ?_ ?_ N hN i h0 h1
 ·rw [show ((N:Nat):Int) - ((N:Nat):Int)=0 by omega] at this;exact this
 ·intro again m i o x j hm i0 i1 ho hr;obtain ⟨j1,f1,f2⟩:=(yjU hb hl i i0 i1).1 x j hr;unfold YE nz;simp only [wK,ji N m (by omega) hm,yg,zzal0,f1,f2];rw [y0 (by simp only [yp,yr];omega)]
 ·intro again m i o hm i0 i1 ho hr;obtain ⟨y,j,j1,b1,f1,f2,j0,jl⟩:=(yjU hb hl i i0 i1).2 hr;refine ⟨j,y,j0,jl,?_⟩;unfold YE nz;simp only [wK,ji N m (by omega) hm,yg,zzal0,f1,f2];rw [y0 (by simp only [yp,yr];omega)]
 ·intro again m i o hm i0 i1 ho;refine ⟨i,(0,0),i0,i1,?_⟩;unfold YE nz;simp only [wK,ji N m (by omega) hm,yg,zzal0,Yy hb hl i i0 i1];rw [y0 (by simp only [yp,yr];omega)]
 ·intro again i b o;unfold YE nz;simp only [rS,yi]
theorem TG (i:Int) (i0:0≤i) (i1:i≤(l.length:Int)):YD (l,i,true)=some (noB,l,i,true):=by rw [RU l i true hb (by omega) i0 (by omega),y9 (fun h=>by (cases h.1))]
theorem Ej (i:Int) (h0:0≤i) (h1:i≤(l.length:Int)):Sim l (pT l i) (YD (l,i,false)):=by
 rw [RU l i false hb (by omega) h0 (by omega)];unfold pT;by_cases ht:(bY l i).2.2=true
 ·rw [y0 ht,y0 ⟨rfl,ht⟩];refine ⟨fun x j h=> ?_,fun h=>by (cases h)⟩;injection h with h;injection h with h2 h3;subst h2 h3;rfl
 ·rw [y9 ht,y9 (fun h=>ht h.2)];exact ⟨fun x j h=>by (cases h),fun _=>⟨_,_,rfl,h0,h1⟩⟩
theorem yjV (i:Int) (i0:0≤i) (i1:i≤(l.length:Int)):
  (∀ x j,pV l i=some (x,j)→ ∃ j1 j2 j3,YD (l,i,false)=some (x.1,l,j1,false)∧yq (l,j1,false)=some (x.2.1,l,j2,false)∧yq (l,j2,false)=some (x.2.2.1,l,j3,false)∧zU (l,j3,false)=some (x.2.2.2,l,j,false))∧
  (pV l i=none→ ∃ y:yj,∃ j j1 b1 j2 b2 j3 b3,YD (l,i,false)=some (y.1,l,j1,b1)∧yq (l,j1,b1)=some (y.2.1,l,j2,b2)∧yq (l,j2,b2)=some (y.2.2.1,l,j3,b3)∧zU (l,j3,b3)=some (y.2.2.2,l,j,true)∧0≤j∧j≤(l.length:Int)):=by
 unfold pV;cases e0:pT l i with
 |none=>obtain ⟨y1,j1,f1,a1,b1⟩:=(Ej hb hl _ i0 i1).2 e0;exact ⟨fun x j h=>by (cases h),fun _=>⟨(y1,0,0,false),j1,j1,true,j1,true,j1,true,f1,Yy hb hl j1 a1 b1,Yy hb hl j1 a1 b1,cI hb hl j1 a1 b1,a1,b1⟩⟩
 |some x0=>
  have f0:=(Ej hb hl _ i0 i1).1 x0.1 x0.2 e0;have s0:=S1 hb _ x0.1 x0.2 i0 i1 e0;simp only [zzal0];cases e1:p1 l x0.2 with
  |none=>obtain ⟨y1,j1,f1,a1,b1⟩:=(JN hb hl _ s0.j0 s0.le).2 e1;exact ⟨fun x j h=>by (cases h),fun _=>⟨(x0.1,y1,0,false),j1,x0.2,false,j1,true,j1,true,f0,f1,Yy hb hl j1 a1 b1,cI hb hl j1 a1 b1,a1,b1⟩⟩
  |some x1=>
   have f1:=(JN hb hl _ s0.j0 s0.le).1 x1.1 x1.2 e1;have s1:=Z9 hb _ x1.1 x1.2 s0.j0 s0.le e1;simp only [zzal0];cases e2:p1 l x1.2 with
   |none=>obtain ⟨y1,j1,f2,a1,b1⟩:=(JN hb hl _ s1.j0 s1.le).2 e2;exact ⟨fun x j h=>by (cases h),fun _=>⟨(x0.1,x1.1,y1,false),j1,x0.2,false,x1.2,false,j1,true,f0,f1,f2,cI hb hl j1 a1 b1,a1,b1⟩⟩
   |some x2=>
    have f2:=(JN hb hl _ s1.j0 s1.le).1 x2.1 x2.2 e2;have s2:=Z9 hb _ x2.1 x2.2 s1.j0 s1.le e2;simp only [zzal0];cases e3:pF l x2.2 with
    |none=>obtain ⟨y1,j1,f3,a1,b1⟩:=(mZ hb hl _ s2.j0 s2.le).2 e3;exact ⟨fun x j h=>by (cases h),fun _=>⟨(x0.1,x1.1,x2.1,y1),j1,x0.2,false,x1.2,false,x2.2,false,f0,f1,f2,f3,a1,b1⟩⟩
    |some x3=>have f3:=(mZ hb hl _ s2.j0 s2.le).1 x3.1 x3.2 e3;refine ⟨fun x j h=> ?_,fun h=>by (cases h)⟩;simp only [zzal0] at h;injection h with h;injection h with h2 h3;subst h2 h3;exact ⟨x0.2,x1.2,x2.2,f0,f1,f2,f3⟩
theorem yjW (k0:S9→Option R) (a:List yb) (N:Nat) (hN:N<300) (i:Int) (h0:0≤i) (h1:i≤(l.length:Int)):
  ((∀ v j,many (pV l) N i=some (v,j)→YU k0 (((N:Nat):Int),0,l,i,false,0,z,[],a,[],[])=k0 (l,j,false,0,z,[],a,[],v))∧(many (pV l) N i=none→ ∃ j v,0≤j∧j≤(l.length:Int)∧YU k0 (((N:Nat):Int),0,l,i,false,0,z,[],a,[],[])=k0 (l,j,true,0,z,[],a,[],v)))∧
  ∃ j v,0≤j∧j≤(l.length:Int)∧YU k0 (((N:Nat):Int),0,l,i,true,0,z,[],a,[],[])=k0 (l,j,true,0,z,[],a,[],v):=by
 unfold YU;have:=Qv (step:=Yu k0) (rM hb) (fun m i b o=>(((N:Nat):Int),((N:Nat):Int) - ((m:Nat):Int),l,i,b,0,z,[],a,[],o)) (fun i b o=>k0 (l,i,b,0,z,[],a,[],o)) ?_ ?_ ?_ ?_ N hN i h0 h1
 ·rw [show ((N:Nat):Int) - ((N:Nat):Int)=0 by omega] at this;exact this
 ·intro again m i o x j hm i0 i1 ho hr;obtain ⟨j1,j2,j3,f1,f2,f3,f4⟩:=(yjV hb hl i i0 i1).1 x j hr;unfold Yu nz;simp only [wK,ji N m (by omega) hm,yg,zzal0,f1,f2,f3,f4];rw [y0 (by simp only [yp,yr];omega)]
 ·intro again m i o hm i0 i1 ho hr;obtain ⟨y,j,j1,b1,j2,b2,j3,b3,f1,f2,f3,f4,j0,jl⟩:=(yjV hb hl i i0 i1).2 hr;refine ⟨j,y,j0,jl,?_⟩;unfold Yu nz;simp only [wK,ji N m (by omega) hm,yg,zzal0,f1,f2,f3,f4];rw [y0 (by simp only [yp,yr];omega)]
 ·intro again m i o hm i0 i1 ho;refine ⟨i,(noB,0,0,false),i0,i1,?_⟩;unfold Yu nz;simp only [wK,ji N m (by omega) hm,yg,zzal0,TG hb hl i i0 i1,Yy hb hl i i0 i1,cI hb hl i i0 i1];rw [y0 (by simp only [yp,yr];omega)]
 ·intro again i b o;unfold Yu nz;simp only [rS,yi]
theorem ybu (i:Int) (i0:0≤i) (i1:i≤(l.length:Int)):
  (∀ x j,pC l i=some (x,j)→ ∃ j1 j2,yz (l,i,false)=some (x.1,l,j1,false)∧zU (l,j1,false)=some (x.2.1,l,j2,false)∧yz (l,j2,false)=some (x.2.2,l,j,false))∧
  (pC l i=none→ ∃ y:ya,∃ j j1 b1 j2 b2,yz (l,i,false)=some (y.1,l,j1,b1)∧zU (l,j1,b1)=some (y.2.1,l,j2,b2)∧yz (l,j2,b2)=some (y.2.2,l,j,true)∧0≤j∧j≤(l.length:Int)):=by
 unfold pC;cases e1:p2 l i with
 |none=>obtain ⟨y1,j1,f1,a1,b1⟩:=(Vl hb hl _ i0 i1).2 e1;exact ⟨fun x j h=>by (cases h),fun _=>⟨(y1,false,0),j1,j1,true,j1,true,f1,cI hb hl j1 a1 b1,WV hb hl j1 a1 b1,a1,b1⟩⟩
 |some x1=>
  have f1:=(Vl hb hl _ i0 i1).1 x1.1 x1.2 e1;have s1:=ai hb _ x1.1 x1.2 i0 i1 e1;simp only [zzal0];cases e2:pF l x1.2 with
  |none=>obtain ⟨y1,j1,f2,a1,b1⟩:=(mZ hb hl _ s1.j0 s1.le).2 e2;exact ⟨fun x j h=>by (cases h),fun _=>⟨(x1.1,y1,0),j1,x1.2,false,j1,true,f1,f2,WV hb hl j1 a1 b1,a1,b1⟩⟩
  |some x2=>
   have f2:=(mZ hb hl _ s1.j0 s1.le).1 x2.1 x2.2 e2;have s2:=xJ hb _ x2.1 x2.2 s1.j0 s1.le e2;simp only [zzal0];cases e3:p2 l x2.2 with
   |none=>obtain ⟨y1,j1,f3,a1,b1⟩:=(Vl hb hl _ s2.j0 s2.le).2 e3;exact ⟨fun x j h=>by (cases h),fun _=>⟨(x1.1,x2.1,y1),j1,x1.2,false,x2.2,false,f1,f2,f3,a1,b1⟩⟩
   |some x3=>have f3:=(Vl hb hl _ s2.j0 s2.le).1 x3.1 x3.2 e3;refine ⟨fun x j h=> ?_,fun h=>by (cases h)⟩;simp only [zzal0] at h;injection h with h;injection h with h2 h3;subst h2 h3;exact ⟨x1.2,x2.2,f1,f2,f3⟩
theorem yei (k0:S9→Option R) (a:List yb) (v:List yj) (i:Int) (h0:0≤i) (h1:i≤(l.length:Int)):
  ((∀ c j,many (pC l) 24 i=some (c,j)→YV k0 (0,l,i,false,0,z,[],a,[],v)=k0 (l,j,false,0,z,[],a,c,v))∧(many (pC l) 24 i=none→ ∃ j c,0≤j∧j≤(l.length:Int)∧YV k0 (0,l,i,false,0,z,[],a,[],v)=k0 (l,j,true,0,z,[],a,c,v)))∧
  ∃ j c,0≤j∧j≤(l.length:Int)∧YV k0 (0,l,i,true,0,z,[],a,[],v)=k0 (l,j,true,0,z,[],a,c,v):=by
 unfold YV;have:=Qv (step:=Yv k0) (rN hb) (fun m i b o=>(((24:Nat):Int) - ((m:Nat):Int),l,i,b,0,z,[],a,o,v)) (fun i b o=>k0 (l,i,b,0,z,[],a,o,v)) ?_ ?_ ?_ ?_ 24 (by omega) i h0 h1
 ·exact this
 ·intro again m i o x j hm i0 i1 ho hr;obtain ⟨j1,j2,f1,f2,f3⟩:=(ybu hb hl i i0 i1).1 x j hr;unfold Yv nz;have hlt:decide (((24:Nat):Int) - ((m+1:Nat):Int)<(24:Int))=true:=wK 24 m;simp only [hlt,ji 24 m (by omega) hm,yg,zzal0,f1,f2,f3];rw [y0 (by simp only [yp,yr];omega)]
 ·intro again m i o hm i0 i1 ho hr;obtain ⟨y,j,j1,b1,j2,b2,f1,f2,f3,j0,jl⟩:=(ybu hb hl i i0 i1).2 hr;refine ⟨j,y,j0,jl,?_⟩;unfold Yv nz;have hlt:decide (((24:Nat):Int) - ((m+1:Nat):Int)<(24:Int))=true:=wK 24 m;simp only [hlt,ji 24 m (by omega) hm,yg,zzal0,f1,f2,f3];rw [y0 (by simp only [yp,yr];omega)]
 ·intro again m i o hm i0 i1 ho;refine ⟨i,(0,false,0),i0,i1,?_⟩;unfold Yv nz;have hlt:decide (((24:Nat):Int) - ((m+1:Nat):Int)<(24:Int))=true:=wK 24 m;simp only [hlt,ji 24 m (by omega) hm,yg,zzal0,WV hb hl i i0 i1,cI hb hl i i0 i1];rw [y0 (by simp only [yp,yr];omega)]
 ·intro again i b o;unfold Yv nz;have hlt:decide (((24:Nat):Int) - ((0:Nat):Int)<(24:Int))=false:=rS 24;simp only [hlt,yi]
omit hb hl
def eP (N:Nat) (l:List Int) (z:Int) (a:List yb) (c:List ya) (v:List yj) (m:Nat) (i:Int) (b:Bool):List (Int×y6)→J5
 |[]=> .inl (((N:Nat):Int),((N:Nat):Int) - ((m:Nat):Int),l,i,b,0,z,[],a,c,v)
 |p::r=> .inr (((N:Nat):Int),((N:Nat):Int) - ((m:Nat):Int),l,i,b,0,z,(p::r).map Prod.fst,(p::r).map Prod.snd,a,c,v)
def Ek (k0:S9→Option R) (k1:S9n→Option R) (l:List Int) (z:Int) (a:List yb) (c:List ya) (v:List yj) (i:Int) (b:Bool):List (Int×y6)→Option R
 |[]=>k0 (l,i,b,0,z,[],a,c,v)
 |p::r=>k1 (l,i,b,0,z,(p::r).map Prod.fst,(p::r).map Prod.snd,a,c,v)
include hb hl
theorem yjX (i:Int) (i0:0≤i) (i1:i≤(l.length:Int)):
  (∀ x j,pL l i=some (x,j)→ ∃ j1,yz (l,i,false)=some (x.1,l,j1,false)∧Yf (l,j1,false)=some (x.2,l,j,false))∧
  (pL l i=none→ ∃ y:Int×y6,∃ j j1 b1,yz (l,i,false)=some (y.1,l,j1,b1)∧Yf (l,j1,b1)=some (y.2,l,j,true)∧0≤j∧j≤(l.length:Int)):=by
 unfold pL;cases e1:p2 l i with
 |none=>obtain ⟨y1,j1,f1,a1,b1⟩:=(Vl hb hl _ i0 i1).2 e1;obtain ⟨y2,j2,f2,a2,b2⟩:=(n6 hb hl j1 a1 b1).2;exact ⟨fun x j h=>by (cases h),fun _=>⟨(y1,y2),j2,j1,true,f1,f2,a2,b2⟩⟩
 |some x1=>
  have f1:=(Vl hb hl _ i0 i1).1 x1.1 x1.2 e1;have s1:=ai hb _ x1.1 x1.2 i0 i1 e1;simp only [zzal0];cases e2:pNd l x1.2 with
  |none=>obtain ⟨y1,j1,f2,a1,b1⟩:=(n6 hb hl _ s1.j0 s1.le).1.2 e2;exact ⟨fun x j h=>by (cases h),fun _=>⟨(x1.1,y1),j1,x1.2,false,f1,f2,a1,b1⟩⟩
  |some x2=>have f2:=(n6 hb hl _ s1.j0 s1.le).1.1 x2.1 x2.2 e2;refine ⟨fun x j h=> ?_,fun h=>by (cases h)⟩;simp only [zzal0] at h;injection h with h;injection h with h2 h3;subst h2 h3;exact ⟨x1.2,f1,f2⟩
theorem yjY (k0:S9→Option R) (k1:S9n→Option R) (a:List yb) (v:List yj) (c:List ya) (N:Nat) (hN:N<300) (i:Int) (h0:0≤i) (h1:i≤(l.length:Int)):
  ((∀ t j,many (pL l) N i=some (t,j)→YW k0 k1 (Sum.inl (((N:Nat):Int),0,l,i,false,0,z,[],a,c,v))=Ek k0 k1 l z a c v j false t)∧(many (pL l) N i=none→ ∃ j t,0≤j∧j≤(l.length:Int)∧YW k0 k1 (Sum.inl (((N:Nat):Int),0,l,i,false,0,z,[],a,c,v))=Ek k0 k1 l z a c v j true t))∧
  ∃ j t,0≤j∧j≤(l.length:Int)∧YW k0 k1 (Sum.inl (((N:Nat):Int),0,l,i,true,0,z,[],a,c,v))=Ek k0 k1 l z a c v j true t:=by
 unfold YW;have:=Qv (step:=zu k0 k1) (FV hb) (fun m i b o=>eP N l z a c v m i b o) (fun i b o=>Ek k0 k1 l z a c v i b o) ?_ ?_ ?_ ?_ N hN i h0 h1
 ·have e0: ∀ b,eP N l z a c v N i b []= .inl (((N:Nat):Int),0,l,i,b,0,z,[],a,c,v):=fun b=>by
   unfold eP;rw [show ((N:Nat):Int) - ((N:Nat):Int)=0 by omega]
  rw [e0,e0] at this;exact this
 ·intro again m i o x j hm i0 i1 ho hr;obtain ⟨j1,f1,f2⟩:=(yjX hb hl i i0 i1).1 x j hr;cases o with
  |nil=>simp only [nz,eP,zu,wK,ji N m (by omega) hm,yg,zzal0,f1,f2];rw [y0 (by simp only [yp,yr];omega),y0 (len1 _ _ (by decide))];rfl
  |cons p r=>simp only [nz,eP,zu,wK,ji N m (by omega) hm,yg,zzal0,f1,f2];rw [y0 (by simp only [wV,yp,yr] at ho ⊢;omega),y0 (by simp only [wV,yp,yr] at ho ⊢;omega)];simp only [aK,eP,J7,nQ,gb]
 ·intro again m i o hm i0 i1 ho hr;obtain ⟨y,j,j1,b1,f1,f2,j0,jl⟩:=(yjX hb hl i i0 i1).2 hr;refine ⟨j,y,j0,jl,?_⟩;cases o with
  |nil=>simp only [nz,eP,zu,wK,ji N m (by omega) hm,yg,zzal0,f1,f2];rw [y0 (by simp only [yp,yr];omega),y0 (len1 _ _ (by decide))];rfl
  |cons p r=>simp only [nz,eP,zu,wK,ji N m (by omega) hm,yg,zzal0,f1,f2];rw [y0 (by simp only [wV,yp,yr] at ho ⊢;omega),y0 (by simp only [wV,yp,yr] at ho ⊢;omega)];simp only [aK,eP,J7,nQ,gb]
 ·intro again m i o hm i0 i1 ho;obtain ⟨y2,j2,f2,a2,b2⟩:=(n6 hb hl i i0 i1).2;refine ⟨j2,(0,y2),a2,b2,?_⟩;cases o with
  |nil=>simp only [nz,eP,zu,wK,ji N m (by omega) hm,yg,zzal0,WV hb hl i i0 i1,f2];rw [y0 (by simp only [yp,yr];omega),y0 (len1 _ _ (by decide))];rfl
  |cons p r=>simp only [nz,eP,zu,wK,ji N m (by omega) hm,yg,zzal0,WV hb hl i i0 i1,f2];rw [y0 (by simp only [wV,yp,yr] at ho ⊢;omega),y0 (by simp only [wV,yp,yr] at ho ⊢;omega)];simp only [aK,eP,J7,nQ,gb]
 ·intro again i b o;cases o with
  |nil=>simp only [nz,eP,Ek,zu,rS,yi]
  |cons p r=>simp only [nz,eP,Ek,zu,rS,yi]
abbrev P9:Type:=List yf×List y6×List yb×List ya×List yj×Int×List yn×Int×Bool
def yej (l:List Int) (o:Option P9):Prop:= ∃ q t a c v z j,o=some (q,t,a,c,v,z,l,j,true)
theorem Ci (a:List yb) (v:List yj) (c:List ya) (i:Int) (h0:0≤i) (h1:i≤(l.length:Int)):
  yej l (YW (fun x21=>some (x21.2.2.2.2.2.1,([]:List y6),x21.2.2.2.2.2.2.1,x21.2.2.2.2.2.2.2.1,x21.2.2.2.2.2.2.2.2,x21.2.2.2.2.1,x21.1,x21.2.1,x21.2.2.1)) (fun FZ=>some (FZ.2.2.2.2.2.1,FZ.2.2.2.2.2.2.1,FZ.2.2.2.2.2.2.2.1,FZ.2.2.2.2.2.2.2.2.1,FZ.2.2.2.2.2.2.2.2.2,FZ.2.2.2.2.1,FZ.1,FZ.2.1,FZ.2.2.1)) (Sum.inl (0,0,l,i,true,0,z,[],a,c,v))):=by
 obtain ⟨j,t,_,_,e⟩:=(yjY hb hl z (fun x21=>some (x21.2.2.2.2.2.1,([]:List y6),x21.2.2.2.2.2.2.1,x21.2.2.2.2.2.2.2.1,x21.2.2.2.2.2.2.2.2,x21.2.2.2.2.1,x21.1,x21.2.1,x21.2.2.1)) (fun FZ=>some (FZ.2.2.2.2.2.1,FZ.2.2.2.2.2.2.1,FZ.2.2.2.2.2.2.2.1,FZ.2.2.2.2.2.2.2.2.1,FZ.2.2.2.2.2.2.2.2.2,FZ.2.2.2.2.1,FZ.1,FZ.2.1,FZ.2.2.1)) a v c 0 (by omega) i h0 h1).2;have e':=e;unfold yej;cases t with
 |nil=>exact ⟨_,_,_,_,_,_,_,e⟩
 |cons p r=>exact ⟨_,_,_,_,_,_,_,e⟩
end
section
variable {R:Type} {l:List Int} (hb:isBytes l) (hl:l.length≤1048576) (z:Int)
include hb hl
theorem ybv (k0:S9→Option R) (i:Int) (h0:0≤i) (h1:i≤(l.length:Int)): ∃ j a,0≤j∧j≤(l.length:Int)∧Z6 k0 (0,0,l,i,true,0,z,[],[],[],[])=k0 (l,j,true,0,z,[],a,[],[]):=(ip5 hb hl z k0 0 (by omega) i h0 h1).2
theorem F_ (k0:S9→Option R) (a:List yb) (i:Int) (h0:0≤i) (h1:i≤(l.length:Int)): ∃ j v,0≤j∧j≤(l.length:Int)∧YU k0 (0,0,l,i,true,0,z,[],a,[],[])=k0 (l,j,true,0,z,[],a,[],v):=(yjW hb hl z k0 a 0 (by omega) i h0 h1).2
theorem Cj (k0:S9→Option R) (a:List yb) (v:List yj) (i:Int) (h0:0≤i) (h1:i≤(l.length:Int)): ∃ j c,0≤j∧j≤(l.length:Int)∧YV k0 (0,l,i,true,0,z,[],a,[],v)=k0 (l,j,true,0,z,[],a,c,v):=(yei hb hl z k0 a v i h0 h1).2
theorem G4:(∀ p j,pP l=some (p,j)→J0 (l,0,false)=some (p.2.2.2.2.map Prod.fst,p.2.2.2.2.map Prod.snd,p.2.1,p.2.2.2.1,p.2.2.1,p.1,l,j,false))∧(pP l=none→yej l (J0 (l,0,false))):=by
 have z0:(0:Int)≤(l.length:Int):=by omega
 unfold J0 pP nz;cases e0:p2 l 0 with
 |none=>obtain ⟨y,j,f,a1,b1⟩:=(Vl hb hl 0 (yP _) z0).2 e0;refine ⟨fun p j h=>by (cases h),fun _=> ?_⟩;simp only [f,zzal0,Yy hb hl j a1 b1];obtain ⟨j2,a,a2,b2,f2⟩:=ybv hb hl y _ j a1 b1;rw [f2];simp only [zzal0,Yy hb hl j2 a2 b2];obtain ⟨j3,v,a3,b3,f3⟩:=F_ hb hl y _ a j2 a2 b2;rw [f3];simp only [];obtain ⟨j4,c,a4,b4,f4⟩:=Cj hb hl y _ a v j3 a3 b3;rw [f4];simp only [zzal0,Yy hb hl j4 a4 b4];exact Ci hb hl y a v c j4 a4 b4
 |some z=>
  have f0:=(Vl hb hl 0 (yP _) z0).1 z.1 z.2 e0;have s0:=ai hb 0 z.1 z.2 (yP _) z0 e0;simp only [f0,zzal0];cases e1:p1 l z.2 with
  |none=>refine ⟨fun p j h=>by (cases h),fun _=> ?_⟩;simp only [WL hb hl z.2 s0.j0 (m_ s0.le e1),zzal0];obtain ⟨j2,a,a2,b2,f2⟩:=ybv hb hl z.1 _ z.2 s0.j0 s0.le;rw [f2];simp only [zzal0,Yy hb hl j2 a2 b2];obtain ⟨j3,v,a3,b3,f3⟩:=F_ hb hl z.1 _ a j2 a2 b2;rw [f3];simp only [];obtain ⟨j4,c,a4,b4,f4⟩:=Cj hb hl z.1 _ a v j3 a3 b3;rw [f4];simp only [zzal0,Yy hb hl j4 a4 b4];exact Ci hb hl z.1 a v c j4 a4 b4
  |some n1=>
   have f1:=(JN hb hl _ s0.j0 s0.le).1 n1.1 n1.2 e1;have s1:=Z9 hb _ n1.1 n1.2 s0.j0 s0.le e1;have c1:=cnt_lt hb (n:=n1.1) (j:=n1.2) e1;have g1:((n1.1.toNat:Nat):Int)=n1.1:=by omega
   simp only [f1,zzal0];have hA:=fun {R:Type} (k0:S9→Option R)=>(ip5 hb hl z.1 k0 n1.1.toNat (by omega) n1.2 s1.j0 s1.le).1;simp only [g1] at hA;cases ea:many (pA l) n1.1.toNat n1.2 with
   |none=>refine ⟨fun p j h=>by (cases h),fun _=> ?_⟩;obtain ⟨j2,a,a2,b2,f2⟩:=(hA _).2 ea;rw [f2];simp only [zzal0,Yy hb hl j2 a2 b2];obtain ⟨j3,v,a3,b3,f3⟩:=F_ hb hl z.1 _ a j2 a2 b2;rw [f3];simp only [];obtain ⟨j4,c,a4,b4,f4⟩:=Cj hb hl z.1 _ a v j3 a3 b3;rw [f4];simp only [zzal0,Yy hb hl j4 a4 b4];exact Ci hb hl z.1 a v c j4 a4 b4
   |some a=>
    have sa:=Ky (rL hb) _ _ a.1 a.2 s1.j0 s1.le ea;rw [(hA _).1 a.1 a.2 ea];simp only [zzal0];cases e2:p1 l a.2 with
    |none=>refine ⟨fun p j h=>by (cases h),fun _=> ?_⟩;simp only [WL hb hl a.2 sa.j0 (m_ sa.le e2),zzal0];obtain ⟨j3,v,a3,b3,f3⟩:=F_ hb hl z.1 _ a.1 a.2 sa.j0 sa.le;rw [f3];simp only [];obtain ⟨j4,c,a4,b4,f4⟩:=Cj hb hl z.1 _ a.1 v j3 a3 b3;rw [f4];simp only [zzal0,Yy hb hl j4 a4 b4];exact Ci hb hl z.1 a.1 v c j4 a4 b4
    |some n2=>
     have f2:=(JN hb hl _ sa.j0 sa.le).1 n2.1 n2.2 e2;have s2:=Z9 hb _ n2.1 n2.2 sa.j0 sa.le e2;have c2:=cnt_lt hb (n:=n2.1) (j:=n2.2) e2;have g2:((n2.1.toNat:Nat):Int)=n2.1:=by omega
     simp only [f2,zzal0];have hV:=fun {R:Type} (k0:S9→Option R)=>(yjW hb hl z.1 k0 a.1 n2.1.toNat (by omega) n2.2 s2.j0 s2.le).1;simp only [g2] at hV;cases ev:many (pV l) n2.1.toNat n2.2 with
     |none=>refine ⟨fun p j h=>by (cases h),fun _=> ?_⟩;obtain ⟨j3,v,a3,b3,f3⟩:=(hV _).2 ev;rw [f3];simp only [];obtain ⟨j4,c,a4,b4,f4⟩:=Cj hb hl z.1 _ a.1 v j3 a3 b3;rw [f4];simp only [zzal0,Yy hb hl j4 a4 b4];exact Ci hb hl z.1 a.1 v c j4 a4 b4
     |some v=>
      have sv:=Ky (rM hb) _ _ v.1 v.2 s2.j0 s2.le ev;rw [(hV _).1 v.1 v.2 ev];simp only [zzal0];cases ec:many (pC l) 24 v.2 with
      |none=>refine ⟨fun p j h=>by (cases h),fun _=> ?_⟩;obtain ⟨j4,c,a4,b4,f4⟩:=(yei hb hl z.1 _ a.1 v.1 v.2 sv.j0 sv.le).1.2 ec;rw [f4];simp only [zzal0,Yy hb hl j4 a4 b4];exact Ci hb hl z.1 a.1 v.1 c j4 a4 b4
      |some c=>
       have sc:=Ky (rN hb) _ _ c.1 c.2 sv.j0 sv.le ec;rw [(yei hb hl z.1 _ a.1 v.1 v.2 sv.j0 sv.le).1.1 c.1 c.2 ec];simp only [zzal0];cases e3:p1 l c.2 with
       |none=>refine ⟨fun p j h=>by (cases h),fun _=> ?_⟩;simp only [WL hb hl c.2 sc.j0 (m_ sc.le e3),zzal0];exact Ci hb hl z.1 a.1 v.1 c.1 c.2 sc.j0 sc.le
       |some n3=>
        have f3:=(JN hb hl _ sc.j0 sc.le).1 n3.1 n3.2 e3;have s3:=Z9 hb _ n3.1 n3.2 sc.j0 sc.le e3;have c3:=cnt_lt hb (n:=n3.1) (j:=n3.2) e3;have g3:((n3.1.toNat:Nat):Int)=n3.1:=by omega
        simp only [f3,zzal0];have hN:=fun {R:Type} (k0:S9→Option R) (k1:S9n→Option R)=>(yjY hb hl z.1 k0 k1 a.1 v.1 c.1 n3.1.toNat (by omega) n3.2 s3.j0 s3.le).1;simp only [g3] at hN;cases et:many (pL l) n3.1.toNat n3.2 with
        |none=>
         refine ⟨fun p j h=>by (cases h),fun _=> ?_⟩;obtain ⟨j,t,a1,b1,f⟩:=(hN _ _).2 et;rw [f];cases t with
         |nil=>exact ⟨_,_,_,_,_,_,_,rfl⟩
         |cons p r=>exact ⟨_,_,_,_,_,_,_,rfl⟩
        |some t=>
         refine ⟨fun p j h=> ?_,fun h=>by (cases h)⟩;simp only [zzal0] at h;injection h with h;injection h with h2 h3;subst h2 h3;rw [(hN _ _).1 t.1 t.2 et];simp only;generalize t.1=ps;cases ps with
         |nil=>rfl
         |cons p r=>rfl
theorem uF:wG l=some (rP l):=by
 have hsm:= @M3 l hb hl;unfold wG rP nz;obtain ⟨h1,h2⟩:=G4 hb hl;cases hp:pP l with
 |none=>obtain ⟨q,t,a,c,v,z,j,e⟩:=h2 hp;simp only [e,zzal0,xF];rfl
 |some pj=>
  obtain ⟨p,j⟩:=pj;obtain ⟨m1,m2,m3⟩:=hsm hp;have hseg:=y2H hb hp;simp only [h1 p j hp,zzal0,xF];by_cases hj:j=(l.length:Int)
  ·have hje:(j==((List.length l:Nat):Int))=true:=by simpa using hj
   simp only [hje,Yd,mv,yJ,yi,mh _ _ _ _ _ p.1 m2 m1.2.2.2.1 m1.2.2.2.2.1 m1.2.2.2.2.2 m3,lb _ _ _ _ _ p.1 m2 m1.2.2.2.1 m1.2.2.2.2.1 m1.2.2.2.2.2 m3,zzal0];cases hok:zc (p.2.2.2.2.map Prod.fst) (p.2.2.2.2.map Prod.snd) p.2.1 p.2.2.2.1 p.2.2.1 p.1 with
   |false=>rw [y9 (fun h=>by (cases h.2))];rfl
   |true=>
    rw [y0 ⟨hj,rfl⟩];have henc:ZL (p.2.2.2.2.map Prod.fst) (p.2.2.2.2.map Prod.snd) p.2.1 p.2.2.2.1 p.2.2.1 p.1=l:=by unfold ZL;rw [y0 hok];have:=hseg.eq;have h0:l.drop (0:Int).toNat=l:=rfl;have h1:l.drop j.toNat=[]:=aE (by omega);rw [h0,h1,lu] at this;exact this.symm
    simp only [nz,henc,fc,yJ,yi,zzal0,g9]
  ·have hje:(j==((List.length l:Nat):Int))=false:=by simpa using hj
   rw [y9 (fun h=>hj h.1)];simp only [hje,Bool.and_false,Yd,yg,zzal0];rfl
end
abbrev Sup:Type:=Int×Int×Int×Int×Int
noncomputable def wL (s:List y8) (c:List yw) (z i:Int):Int×Int×Int×Int×Int×Bool:=CH (Zx s c z i)
noncomputable def aC (s:List y8) (c:List yw) (z i:Int):List Int×Bool:=Ce s c z (wL s c z i).2.1 (wL s c z i).2.2.1 (wL s c z i).2.2.2.1
noncomputable def M5 (s:List y8) (c:List yw) (z i:Int):Bool:=(aC s c z i).2&&(rP (aC s c z i).1).2.2.2.2.2.2
noncomputable def TH (s:List y8) (c:List yw) (z i:Int):Bool:=(wL s c z i).2.2.2.2.2&&(Int.tmod (wL s c z i).1 2==i)
noncomputable def yjZ (s:List y8) (c:List yw) (z i:Int):Sup:=((wL s c z i).1,(wL s c z i).2.1,(wL s c z i).2.2.1,(wL s c z i).2.2.2.1,(wL s c z i).2.2.2.2.1)
noncomputable def qR (s:List y8) (c:List yw) (z i:Int):Option (Sup×List Int):=if (TH s c z i&&M5 s c z i)=true then some (yjZ s c z i,(aC s c z i).1) else none
theorem y2N (l:List Int) (h:(CH l).2.2.2.2.2=true):1≤(CH l).1:=by
 unfold CH at h ⊢;split at h
 ·rename_i hc;rw [y0 hc];have h3:=hc.2.2;unfold mi at h3;simp only [zzal10,zi] at h3;exact h3.1.1.1.1.1
 ·cases h
theorem tp {s:List y8} {c:List yw} {z i:Int} {u:Sup} {m:List Int} (h:qR s c z i=some (u,m)):1≤u.1∧Int.tmod u.1 2=i∧u=yjZ s c z i∧m=(aC s c z i).1:=by
 unfold qR at h;split at h
 ·rename_i hc;injection h with h;injection h with h1 h2;subst h1 h2;rw [zzal10] at hc;have hp:=hc.1;unfold TH at hp;rw [zzal10,vM] at hp;exact ⟨y2N _ hp.1,hp.2,rfl,rfl⟩
 ·cases h
section
variable {R:Type} (s:List y8) (c:List yw) (z:Int) (b:Bool) (h:td s c z)
include h
theorem G7 (i:Int):isBytes (aC s c z i).1∧(aC s c z i).1.length≤24000:=y5d s c z _ _ _ h
theorem M6 (i:Int):Jg (Zx s c z i)=some (wL s c z i):=t6 _ (eM s c z i h).1 (by have:=(eM s c z i h).2;omega)
theorem M7 (i:Int):jh (Zx s c z i)=some (wL s c z i):=t7 _ (eM s c z i h).1 (by have:=(eM s c z i h).2;omega)
theorem M8 (i:Int):Zu (s,c,z,b,(wL s c z i).1,(wL s c z i).2.1,(wL s c z i).2.2.1,(wL s c z i).2.2.2.1,(wL s c z i).2.2.2.2.1)=some (aC s c z i):=eO s c z b _ _ _ _ _ h
theorem M9 (i:Int):YN (s,c,z,b,(wL s c z i).1,(wL s c z i).2.1,(wL s c z i).2.2.1,(wL s c z i).2.2.2.1,(wL s c z i).2.2.2.2.1)=some (aC s c z i):=qQ s c z b _ _ _ _ _ h
theorem S4 (i:Int):wH (aC s c z i).1=some (rP (aC s c z i).1):=uE (G7 s c z h i).1 (by have:=(G7 s c z h i).2;omega)
theorem S5 (i:Int):wG (aC s c z i).1=some (rP (aC s c z i).1):=uF (G7 s c z h i).1 (by have:=(G7 s c z h i).2;omega)
theorem S6 (k0:Bool×Int×Int×Int×Int×Int×Int×Int×Int×Int×Int×List yn→Option R) (k1:List yn×Bool×Int×Int×Int×Int×Int×Int×Int×Int×Int×Int→Option R) (again:WH→Option R) (i:Int) (i0:0≤i) (i1:i<2):
  Jh k0 k1 again (Sum.inl (false,i,s,c,z,b,0,0,0,0,0,0,0,0,0,0,[]))=match qR s c z i with
   |none=>again (Sum.inl (false,i+1,s,c,z,b,0,0,0,0,0,0,0,0,0,0,[]))
   |some (u,m)=>again (Sum.inr (m,true,i+1,s,c,z,b,0,0,0,0,0,u.1,u.2.1,u.2.2.1,u.2.2.2.1,u.2.2.2.2)):=by
 have hw:Go.IntKind.wrap .i64 (i+1)=i+1:=zb (by omega) (by omega);simp only [nz,Jh,yG i1,yg,dJ s c z b i h,zzal0,M6 s c z h i,hw];unfold qR TH;cases h1:(wL s c z i).2.2.2.2.2 with
 |false=>rfl
 |true=>
  cases h2:(Int.tmod (wL s c z i).1 2==i) with
  |false=>
   have h2':(Int.tmod (wL s c z i).1 2 !=i)=true:=by simpa using h2
   simp only [h2',yJ,yi,zzal0,yg,jH,eS,J6,zP]
  |true=>
   have h2':(Int.tmod (wL s c z i).1 2 !=i)=false:=by simpa using h2
   simp only [h2',yJ,yi,zzal0,jH,M8 s c z b h i,S4 s c z h i];unfold M5;cases h3:(aC s c z i).2 with
   |false=>rfl
   |true=>
    cases h4:(rP (aC s c z i).1).2.2.2.2.2.2 with
    |false=>rfl
    |true=>rfl
theorem y5e (k0:Bool×Int×Int×Int×Int×Int×Int×Int×Int×Int×Int×List yn→Option R) (k1:List yn×Bool×Int×Int×Int×Int×Int×Int×Int×Int×Int×Int→Option R) (again:WH→Option R) (i:Int) (i0:0≤i) (i1:i<2) (m:List Int) (u:Sup):
  Jh k0 k1 again (Sum.inr (m,true,i,s,c,z,b,0,0,0,0,0,u.1,u.2.1,u.2.2.1,u.2.2.2.1,u.2.2.2.2))=match qR s c z i with
   |none=>again (Sum.inr (m,true,i+1,s,c,z,b,0,0,0,0,0,u.1,u.2.1,u.2.2.1,u.2.2.2.1,u.2.2.2.2))
   |some (v,m2)=>if v.1<u.1 then again (Sum.inr (m,true,i+1,s,c,z,b,0,0,0,0,0,u.1,u.2.1,u.2.2.1,u.2.2.2.1,u.2.2.2.2)) else again (Sum.inr (m2,true,i+1,s,c,z,b,0,0,0,0,0,v.1,v.2.1,v.2.2.1,v.2.2.2.1,v.2.2.2.2)):=by
 have hw:Go.IntKind.wrap .i64 (i+1)=i+1:=zb (by omega) (by omega);simp only [nz,Jh,yG i1,yg,dJ s c z b i h,zzal0,M6 s c z h i,hw];unfold qR TH;cases h1:(wL s c z i).2.2.2.2.2 with
 |false=>rfl
 |true=>
  cases h2:(Int.tmod (wL s c z i).1 2==i) with
  |false=>
   have h2':(Int.tmod (wL s c z i).1 2 !=i)=true:=by simpa using h2
   simp only [h2',yJ,yi,zzal0,yg,jH,eS,J6,zP]
  |true=>
   have h2':(Int.tmod (wL s c z i).1 2 !=i)=false:=by simpa using h2
   simp only [h2',yJ,yi,zzal0,jH];by_cases hg:(wL s c z i).1<u.1
   ·rw [yG hg];simp only [yg];unfold M5;cases (aC s c z i).2&&(rP (aC s c z i).1).2.2.2.2.2.2 with
    |false=>rfl
    |true=>exact (y0 hg).symm
   ·rw [yX hg];simp only [yi,zzal0,M8 s c z b h i,S4 s c z h i];unfold M5;cases h3:(aC s c z i).2 with
    |false=>rfl
    |true=>
     cases h4:(rP (aC s c z i).1).2.2.2.2.2.2 with
     |false=>rfl
     |true=>exact (y9 hg).symm
theorem S7 (k0:Int×Int×Int×Int×Int×Int×Int×Int×Int×Int×List yn→Option R) (k1:List yn×Int×Int×Int×Int×Int×Int×Int×Int×Int×Int→Option R) (again:WG→Option R) (i:Int) (i0:0≤i) (i1:i<2) (m:List Int) (u:Sup):
  Jf k0 k1 again (Sum.inl (i,s,c,z,b,0,0,0,0,0,u.1,u.2.1,u.2.2.1,u.2.2.2.1,u.2.2.2.2,m))=match qR s c z i with
   |none=>again (Sum.inl (i+1,s,c,z,b,0,0,0,0,0,u.1,u.2.1,u.2.2.1,u.2.2.2.1,u.2.2.2.2,m))
   |some (v,m2)=>if v.1≤u.1 then again (Sum.inl (i+1,s,c,z,b,0,0,0,0,0,u.1,u.2.1,u.2.2.1,u.2.2.2.1,u.2.2.2.2,m)) else again (Sum.inr (m2,i+1,s,c,z,b,0,0,0,0,0,v.1,v.2.1,v.2.2.1,v.2.2.2.1,v.2.2.2.2)):=by
 have hw:Go.IntKind.wrap .i64 (i+1)=i+1:=zb (by omega) (by omega);unfold Jf nz;simp only [yG i1,yg,qP s c z b i h,zzal0,M7 s c z h i,hw];unfold qR TH;cases h1:(wL s c z i).2.2.2.2.2 with
 |false=>rfl
 |true=>
  cases h2:(Int.tmod (wL s c z i).1 2==i) with
  |false=>
   have h2':(Int.tmod (wL s c z i).1 2 !=i)=true:=by simpa using h2
   simp only [h2',yJ,yi,zzal0,yg,jH,eS,J6,zP]
  |true=>
   have h2':(Int.tmod (wL s c z i).1 2 !=i)=false:=by simpa using h2
   simp only [h2',yJ,yi,zzal0,jH];by_cases hg:(wL s c z i).1≤u.1
   ·rw [yG hg];simp only [yg];unfold M5;cases (aC s c z i).2&&(rP (aC s c z i).1).2.2.2.2.2.2 with
    |false=>rfl
    |true=>exact (y0 hg).symm
   ·rw [yX hg];simp only [yi,zzal0,M9 s c z b h i,S5 s c z h i];unfold M5;cases h3:(aC s c z i).2 with
    |false=>rfl
    |true=>
     cases h4:(rP (aC s c z i).1).2.2.2.2.2.2 with
     |false=>rfl
     |true=>exact (y9 hg).symm
theorem y5f (k0:Int×Int×Int×Int×Int×Int×Int×Int×Int×Int×List yn→Option R) (k1:List yn×Int×Int×Int×Int×Int×Int×Int×Int×Int×Int→Option R) (again:WG→Option R) (i:Int) (i0:0≤i) (i1:i<2) (m:List Int) (u:Sup):
  Jf k0 k1 again (Sum.inr (m,i,s,c,z,b,0,0,0,0,0,u.1,u.2.1,u.2.2.1,u.2.2.2.1,u.2.2.2.2))=match qR s c z i with
   |none=>again (Sum.inr (m,i+1,s,c,z,b,0,0,0,0,0,u.1,u.2.1,u.2.2.1,u.2.2.2.1,u.2.2.2.2))
   |some (v,m2)=>if v.1≤u.1 then again (Sum.inr (m,i+1,s,c,z,b,0,0,0,0,0,u.1,u.2.1,u.2.2.1,u.2.2.2.1,u.2.2.2.2)) else again (Sum.inr (m2,i+1,s,c,z,b,0,0,0,0,0,v.1,v.2.1,v.2.2.1,v.2.2.2.1,v.2.2.2.2)):=by
 have hw:Go.IntKind.wrap .i64 (i+1)=i+1:=zb (by omega) (by omega);unfold Jf nz;simp only [yG i1,yg,qP s c z b i h,zzal0,M7 s c z h i,hw];unfold qR TH;cases h1:(wL s c z i).2.2.2.2.2 with
 |false=>rfl
 |true=>
  cases h2:(Int.tmod (wL s c z i).1 2==i) with
  |false=>
   have h2':(Int.tmod (wL s c z i).1 2 !=i)=true:=by simpa using h2
   simp only [h2',yJ,yi,zzal0,yg,jH,eS,J6,zP]
  |true=>
   have h2':(Int.tmod (wL s c z i).1 2 !=i)=false:=by simpa using h2
   simp only [h2',yJ,yi,zzal0,jH];by_cases hg:(wL s c z i).1≤u.1
   ·rw [yG hg];simp only [yg];unfold M5;cases (aC s c z i).2&&(rP (aC s c z i).1).2.2.2.2.2.2 with
    |false=>rfl
    |true=>exact (y0 hg).symm
   ·rw [yX hg];simp only [yi,zzal0,M9 s c z b h i,S5 s c z h i];unfold M5;cases h3:(aC s c z i).2 with
    |false=>rfl
    |true=>
     cases h4:(rP (aC s c z i).1).2.2.2.2.2.2 with
     |false=>rfl
     |true=>exact (y9 hg).symm
omit h
abbrev BR:Type:=Int×Int×Int×Int×Int×List yn×Bool
def y5g:Option (Sup×List Int)→BR
 |none=>(0,0,0,0,0,[],false)
 |some (u,m)=>(u.1,u.2.1,u.2.2.1,u.2.2.2.1,u.2.2.2.2,m,true)
noncomputable def Ma (s:List y8) (c:List yw) (z:Int):Option (Sup×List Int):=match qR s c z 0 with
 |none=>qR s c z 1
 |some (u,m)=>(match qR s c z 1 with
  |none=>some (u,m)
  |some (v,m2)=>if v.1<u.1 then some (u,m) else some (v,m2))
include h
theorem Ck:ae (s,c,z,b)=some (y5g (Ma s c z)):=by
 unfold ae iY nz;have hF:FUEL=(FUEL - 3)+1+1+1:=by have:=Zz;omega
 rw [hF,iter];rw [S6 s c z b h _ _ _ 0 (yP _) (by omega)];unfold Ma;cases h0:qR s c z 0 with
 |none=>
  simp only [];rw [iter,S6 s c z b h _ _ _ (0+1) (by omega) (by omega),show (0:Int)+1=1 from rfl];cases h1:qR s c z 1 with
  |none=>rfl
  |some vm=>rfl
 |some um=>
  obtain ⟨u,m⟩:=um;simp only [];rw [iter,y5e s c z b h _ _ _ (0+1) (by omega) (by omega) m u,show (0:Int)+1=1 from rfl];cases h1:qR s c z 1 with
  |none=>rfl
  |some vm=>
   obtain ⟨v,m2⟩:=vm;simp only [];by_cases hv:v.1<u.1
   ·rw [y0 hv,y0 hv];rfl
   ·rw [y9 hv,y9 hv];rfl
theorem Cl:ac (s,c,z,b)=some (y5g (Ma s c z)):=by
 unfold ac iX nz;have hF:FUEL=(FUEL - 3)+1+1+1:=by have:=Zz;omega
 have fin: ∀ (u:Sup) (m:List Int),1≤u.1→(fun x16:List yn×Int×Int×Int×Int×Int×Int×Int×Int×Int×Int=>some (x16.2.2.2.2.2.2.1,x16.2.2.2.2.2.2.2.1,x16.2.2.2.2.2.2.2.2.1,x16.2.2.2.2.2.2.2.2.2.1,x16.2.2.2.2.2.2.2.2.2.2,x16.1,(decide (x16.2.2.2.2.2.2.1>(0:Int))))) (m,0,0,0,0,0,u.1,u.2.1,u.2.2.1,u.2.2.2.1,u.2.2.2.2)=some (y5g (some (u,m))):=by intro u m hu;simp only [yG (show u.1>0 by omega)];rfl
 rw [hF,iter];have r0:=fun k0 k1 again=>S7 (R:=BR) s c z b h k0 k1 again 0 (yP _) (by omega) [] (0,0,0,0,0);have r1:=fun k0 k1 again m u=>S7 (R:=BR) s c z b h k0 k1 again 1 (by omega) (by omega) m u;have r3:=fun k0 k1 again m u=>y5f (R:=BR) s c z b h k0 k1 again 1 (by omega) (by omega) m u;simp only [] at r0;rw [r0];unfold Ma;cases h0:qR s c z 0 with
 |none=>
  simp only [];have r2:=fun k0 k1 again=>r1 k0 k1 again [] (0,0,0,0,0);simp only [] at r2;rw [iter,show (0:Int)+1=1 from rfl,r2];cases h1:qR s c z 1 with
  |none=>rfl
  |some vm=>obtain ⟨v,m2⟩:=vm;have hv:=(tp h1).1;simp only [];rw [y9 (by omega)];exact fin v m2 hv
 |some um=>
  obtain ⟨u,m⟩:=um;have hu:=tp h0;simp only [];rw [y9 (by have:=hu.1;omega),iter,show (0:Int)+1=1 from rfl,r3];cases h1:qR s c z 1 with
  |none=>exact fin u m hu.1
  |some vm=>
   obtain ⟨v,m2⟩:=vm;have hv:=tp h1;simp only [];by_cases hvu:v.1≤u.1
   ·have hne:v.1≠u.1:=fun e=>by
     have e1:=hv.2.1;have e2:=hu.2.1;rw [e,e2] at e1;cases e1
    rw [y0 hvu,y0 (by omega)];exact fin u m hu.1
   ·rw [y9 hvu,y9 (by omega)];exact fin v m2 hv.1
end
theorem wu64 {n:Int} (h0:0≤n) (h1:n≤1000):Go.IntKind.wrap .u64 n=n:=by show n % (2 ^ 64:Nat)=n;omega
theorem y5h {s:List y8} {c:List yw} {z:Int} (b:Bool) (keep:Int) (hd:Kt s c z) (hb:Mh s c): ∃ s',qy (s,c,z,b,keep)=some (s',[],-1,false)∧(∀ a∈s',isBytes a∧List.length a≤80)∧s'.length=s.length:=by
 have hD:cx s c z=true:=(aA s c z).2 hd;have hsm:=gT hd;unfold qy nz;simp only [dw s c z b hsm,KZ s c z b hsm.1 hsm.2.1,hD,zK,zzal0,yJ,yi];have key: ∀ k:Int,∃ s',Kj (fun x5=>some (x5.2.2.2.2.1,([]:List yw),(-1:Int),false)) (k,(0:Int),(0:Int),false,z,b,s,c)=some (s',[],-1,false)∧(∀ a∈s',isBytes a∧List.length a≤80)∧s'.length=s.length:=by
  intro k;unfold Kj;refine Yo (step:=Ki _) (fun t:Kh=>31 - t.2.1.toNat) (fun w=> ∃ (i:Int) (s':List y8),w=(k,i,0,false,z,b,s',c)∧0≤i∧i≤30∧(∀ a∈s',isBytes a∧List.length a≤80)∧s'.length=s.length)
   (fun _ res=> ∃ s':List y8,res=some (s',[],-1,false)∧(∀ a∈s',isBytes a∧List.length a≤80)∧s'.length=s.length) ?_ _ ⟨0,s,rfl,by omega,by omega,fun a ha=>⟨hb.1 a ha,hd.1 a ha⟩,rfl⟩ (by simp)
  rintro again w ⟨i,s',rfl,i0,i1,hs,hl⟩ hag;unfold Ki nz;simp only;by_cases h1:i<(c.length:Int)
  ·by_cases h2:i<30
   ·have hw:Go.IntKind.wrap .i64 (i+1)=i+1:=zb (by omega) (by omega);have hm:=zz aM c i i0 h1;have hr:=hd.2.1 _ hm;have hr0:0≤(zr c i).1:=hr.1;have hr1:(zr c i).1<(s'.length:Int):=by
     have:(zr c i).1≤(s.length:Int) - 1:=hr.2.1;omega
    have hr2:List.length (zr c i).2≤80:=hr.2.2;have hr3:isBytes (zr c i).2:=hb.2 _ hm;simp only [yG h1,yG h2,yg,zzal0,wu64 i0 (by omega:i≤1000),hw];rw [y9 (by omega)];generalize (Go.bits .and .i64 (Int.fdiv k (2 ^ (min (Int.toNat i) (Go.IntKind.bits .i64)))) (1:Int)==(1:Int))=d;cases d
    ·rw [yi];exact hag _ ⟨i+1,s',rfl,by omega,by omega,hs,hl⟩ (by simp only;omega)
    ·rw [yg,y0 i0,y0 h1,y0 i0,y0 h1,y0 hr0,y0 hr1];refine hag _ ⟨i+1,_,rfl,by omega,by omega,fun a ha=> ?_,by rw [Yt];exact hl⟩ (by simp only;omega);rcases Vo ha with h|rfl
     ·exact hs a h
     ·exact ⟨hr3,hr2⟩
   ·simp only [yG h1,yX h2,yg,yi,zzal0];exact ⟨s',rfl,hs,hl⟩
  ·simp only [yX h1,yi,zzal0];exact ⟨s',rfl,hs,hl⟩
 cases Yn keep 0 1073741823
 ·exact key 0
 ·exact key keep
theorem Mb (k:Nat):isBytes (List.replicate k y3e):=fun y hy=>by rw [List.eq_of_mem_replicate hy];exact ⟨yP 0,by show (0:Int)<256;omega⟩
theorem ox (x:List Int) (p sd:Int) (h:zL x p):gives (Jd (x,p,sd)) x (fun l=>isBytes l∧l.length≤1681):=by
 obtain ⟨o,p1,s1,e1,h1,_⟩:=xH x p sd 10 h;unfold Jd nz;simp only [e1,zzal0];cases o
 ·rw [yi];obtain ⟨v,p2,s2,e2,h2,q2⟩:=Zn x p1 s1 [0,1,69,70,71,140,200] (by simp) (by simp) h1;have hv:0≤v∧v≤200:=by
   simp only [yR,aJ,Vr] at q2;omega
  simp only [e2,zzal0];rw [y0 hv.1,y0 (yP _),y0 (by omega)];exact ⟨_,_,_,rfl,h2,Mb _,by rw [g7];omega⟩
 ·rw [yg];obtain ⟨v,p2,s2,e2,h2,v0,v1⟩:=yM x p1 s1 2 h1;have:=v1 (by omega);have hw:Go.IntKind.wrap .i64 (1680+v)=1680+v:=zb (by omega) (by omega);simp only [e2,zzal0,hw];rw [y0 (by omega),y0 (yP _),y0 (by omega)];exact ⟨_,_,_,rfl,h2,Mb _,by rw [g7];omega⟩
theorem mu:dH Zk []:=ybs (rK (-1) (by omega) (by omega)) S0
theorem TJ (x:List Int) (hx:x.length≤1099511627776): ∃ s c z b side p,J3 x=some (s,c,z,b,side,p)∧dH s c∧isBytes p∧p.length≤1681:=by
 obtain ⟨s0,e0⟩:=FA x hx;obtain ⟨o,p1,s1,e1,h1,_⟩:=xH x 0 s0 4 ⟨hx,yP 0,by omega⟩;unfold J3 nz;simp only [e0,dK,e1,zzal0];cases o
 ·rw [yi];obtain ⟨v2,p2,s2,e2,h2,_⟩:=Zn x p1 s1 [-1,-1,0,1,2] (by simp) (by simp) h1;obtain ⟨v3,p3,s3,e3,h3,_⟩:=Zn x p2 s2 [0,1,2] (by simp) (by simp) h2;obtain ⟨v4,p4,s4,e4,h4,q4,q5⟩:=ox x p3 s3 h3;simp only [e2,e3,e4,zzal0];exact ⟨_,_,_,_,_,_,rfl,mu,q4,q5⟩
 ·rw [yg];obtain ⟨s,c,z,b,p9,s9,e9,hB,h9⟩:=Ed x p1 s1 h1;obtain ⟨v2,p2,s2,e2,h2,_⟩:=Zn x p9 s9 [-1,-1,0,1,2] (by simp) (by simp) h9;obtain ⟨v3,p3,s3,e3,h3,_⟩:=Zn x p2 s2 [0,1,2] (by simp) (by simp) h2;obtain ⟨v4,p4,s4,e4,h4,q4,q5⟩:=ox x p3 s3 h3;simp only [e9,e2,e3,e4,zzal0];exact ⟨_,_,_,_,_,_,rfl,hB,q4,q5⟩
theorem G8 {s:List y8} {c:List yw} {z:Int} {b:Bool} {side:Int} {p:List Int} (hB:dH s c) (hp:isBytes p):dH (dx s c z b side p).1 (dx s c z b side p).2.1:=by
 unfold dx;split
 ·rename_i h;simp only [zzal10] at h;have hd:=(aA s c z).1 h.1;exact ybs (xB s side p 24 0 (c,z,b) hd) (FR hp 24 0 (c,z,b) ⟨fun a ha=>(hB.1 a ha).1,fun w hw=>(hB.2.1 w hw).1⟩)
 ·exact hB
theorem TK (x:List Int) (hx:x.length≤1099511627776): ∃ s c z b a d e f g,JD x=some (s,c,z,b,a,d,e,f,g)∧dH s c:=by obtain ⟨s0,e0⟩:=FA x hx;obtain ⟨l,p1,s1,e1,h1,q1,q2⟩:=ox x 0 s0 ⟨hx,yP 0,by omega⟩;obtain ⟨v2,p2,s2,e2,h2,_⟩:=yM x p1 s1 2 h1;obtain ⟨v3,p3,s3,e3,h3,_⟩:=yM x p2 s2 6 h2;have hw:=dy Zk [] (-1) false v2 l (i7 mu);have hB:=G8 (z:= -1) (b:=false) (side:=v2) mu q1;generalize dx Zk [] (-1) false v2 l=D at hw hB;obtain ⟨d1,d2,d3,d4⟩:=D;unfold JD nz;simp only [e0,dK,e1,e2,hw,Vf l q1 (by omega),e3,zzal0];cases (v3==(0:Int))<;>cases (v3==(1:Int))<;>cases (v3==(2:Int))<;>cases (v3==(3:Int))<;>exact ⟨_,_,_,_,_,_,_,_,_,rfl,hB⟩
theorem TL (x:List Int) (hx:x.length≤1099511627776): ∃ s c z b,kb x=some (s,c,z,b)∧dH s c:=by
 obtain ⟨s0,e0⟩:=FA x hx;obtain ⟨n0,en,n1,n2⟩:=RY x 10 hx (by omega);obtain ⟨s,c,u,b,q,t,l,cs,vs,z,a,n,m,p1,s1,e1,h1,hI⟩:=y5c x 0 s0 n0 ⟨hx,yP 0,by omega⟩ n1 (by omega);obtain ⟨v2,p2,s2,e2,h2,_⟩:=yM x p1 s1 1024 h1;obtain ⟨s',e3,g1,g2⟩:=y5h b v2 hI.D hI.B;obtain ⟨v4,p4,s4,e4,h4,_⟩:=yM x p2 s2 6 h2;have g3:s'.length=60:=g2.trans hI.L;have hB:dH s' []:=⟨fun a ha=>⟨(g1 a ha).1,YI (g1 a ha).2 (by decide)⟩,fun w hw=>(by cases hw),by omega,by simp⟩
 have hset: ∀ (i:Nat) (y:List Int),isBytes y∧y.length≤1000→dH (List.set s' i y) []:=by
  intro i y hy;refine ⟨fun a ha=> ?_,fun w hw=>(by cases hw),by rw [Yt];omega,by simp⟩;rcases Vo ha with h|rfl
  ·exact hB.1 a h
  ·exact hy
 unfold kb nz;simp only [e0,en,e1,e2,e3,e4,zzal0];cases (v4==(0:Int))
 ·rw [yi];cases (v4==(1:Int))
  ·rw [yi];cases (v4==(2:Int))
   ·exact ⟨_,_,_,_,rfl,hB⟩
   ·rw [yg];obtain ⟨s9,c9,z9,b9,p9,sd9,e9,hB9,_⟩:=Ed x p4 s4 h4;simp only [e9,zzal0];exact ⟨_,_,_,_,rfl,hB9⟩
  ·rw [yg];obtain ⟨v5,p5,s5,e5,h5,v50,v51⟩:=yM x p4 s4 40 h4;obtain ⟨l6,p6,s6,e6,h6,q6⟩:=Cb x p5 s5 3 h5 (by omega);have:=v51 (by omega);have hw:Go.IntKind.wrap .i64 (8+v5)=8+v5:=zb (by omega) (by omega);simp only [e5,e6,zzal0,hw];rw [y0 (by omega),y0 (by omega)];exact ⟨_,_,_,_,rfl,hset _ _ q6⟩
 ·rw [yg];obtain ⟨v5,p5,s5,e5,h5,v50,v51⟩:=yM x p4 s4 2 h4;have:=v51 (by omega);obtain ⟨w1,p6,s6,f1,h6,_⟩:=yM x p5 s5 9 h5;obtain ⟨w2,p7,s7,f2,h7,_⟩:=yM x p6 s6 2 h6;obtain ⟨w3,p8,s8,f3,h8,_⟩:=yM x p7 s7 200 h7;obtain ⟨w4,p9,s9,f4,h9,_⟩:=Zn x p8 s8 [0,1,4294967295] (by simp) (by simp) h8;obtain ⟨w5,p10,s10,f5,h10,_⟩:=yM x p9 s9 50 h9;unfold bQ nz;simp only [e5,f1,f2,f3,f4,f5,fU,zzal0];rw [y0 (by omega),y0 (by omega)];refine ⟨_,_,_,_,rfl,hset _ _ ?_⟩;split
  ·exact ⟨yS (ml _ _ _ _ _) (ol _),by simp [enc,uc,four]⟩
  ·exact ⟨gZ,by simp⟩
def JW (side:Int) (p:List Int):Nat→Int→List yw
 |0,_=>[]
 |m+1,i=>if i*70<(p.length:Int) then (8+side*24+i,KB p i)::JW side p m (i+1) else []
theorem y2O (p:List Int) (i:Int) (h0:0≤i):((KB p i).length:Int)≤70:=by unfold KB fS;rw [wU,Za];split<;>omega
theorem G9 {side:Int} (hs:Yn side 0 1=true) (p:List Int): ∀ (m:Nat) (i:Int) (c:List yw),c.length+m≤24→0≤i→i+m≤24→qS Zk side p m i (c,-1,false)=(c++JW side p m i,-1,false)
 |0,_,c,_,_,_=>by rw [qS,JW,lu]
 |m+1,i,c,hc,i0,i1=>by
  rw [qS,JW];split
  ·have h1:=y2O p i i0;have h2:=zi.1 hs;have hw:Fp Zk (c,-1,false) (8+side*24+i) (KB p i)=(c++[(8+side*24+i,KB p i)],-1,false):=by
    unfold Fp;rw [y9 (by simp),y9 (by rw [zi.2 ⟨by omega,by show 8+side*24+i≤((60:Nat):Int) - 1;omega⟩];simp),y9 (by omega),y9 (by simp only;omega),y9 (by simp)];rfl
   rw [hw,G9 hs p m (i+1) _ (by simp only [yU,yp,yr];omega) (by omega) (by omega),jF];rfl
  ·rw [lu]
theorem Cm (side:Int) (p:List Int) (n:Int): ∀ (m:Nat) (i:Int) (d:List Int),(n<8+side*24+i∨8+side*24+i+m≤n)→dI n (JW side p m i) d=d
 |0,_,_,_=>rfl
 |m+1,i,d,h=>by
  rw [JW];split
  ·show dI n (JW side p m (i+1)) (if 8+side*24+i=n then KB p i else d)=d;rw [y9 (by omega)];exact Cm side p n m (i+1) d (by omega)
  ·rfl
theorem S8 (side:Int) (p:List Int) (j:Int) (hj:j*70<(p.length:Int)): ∀ (m:Nat) (i:Int) (d:List Int),i≤j→j<i+m→dI (8+side*24+j) (JW side p m i) d=KB p j
 |0,i,_,h0,h1=>by omega
 |m+1,i,d,h0,h1=>by
  rw [JW,y0 (by omega)];show dI (8+side*24+j) (JW side p m (i+1)) (if 8+side*24+i=8+side*24+j then KB p i else d)=KB p j;by_cases h:i=j
  ·subst h;rw [y0 rfl];exact Cm side p _ m (i+1) _ (by omega)
  ·exact S8 side p j hj m (i+1) _ (by omega) (by omega)
theorem TM (p:List Int) (i:Int) (h0:0≤i) (h:i*70<(p.length:Int)):p.take (i*70).toNat++KB p i=p.take ((i+1)*70).toNat:=by
 have key: ∀ a b:Nat,a≤b→p.take a++(p.take b).drop a=p.take b:=by
  intro a b hab;have:=List.take_append_drop a (p.take b)
  rwa [Ey,Ex hab] at this
 unfold KB fS;split
 ·rename_i hl;rw [key _ _ (by omega),rT (by omega),rT (by omega)]
 ·exact key _ _ (by omega)
section
variable {side:Int} (hs:Yn side 0 1=true) {p:List Int} (hp:p.length≤1680)
include hs hp
theorem Em:dx Zk [] (-1) false side p=(Zk,JW side p 24 0,-1,false):=by have hd:cx Zk [] (-1)=true:=(aA _ _ _).2 (rK (-1) (by omega) (by omega));unfold dx;rw [hd,hs,yG (show (p.length:Int)≤1680 by omega),G9 hs p 24 0 [] (by simp) (by omega) (by omega)];rfl
theorem En:Kt Zk (JW side p 24 0) (-1):=by have h:=xB Zk side p 24 0 ([],-1,false) (rK (-1) (by omega) (by omega));rw [G9 hs p 24 0 [] (by simp) (by omega) (by omega)] at h;exact h
theorem Eo (n:Int) (h0:0≤n) (h1:n≤59):Zx Zk (JW side p 24 0) (-1) n=dI n (JW side p 24 0) []:=by have hd:cx Zk (JW side p 24 0) (-1)=true:=(aA _ _ _).2 (En hs hp);have h2:Yn n 0 ((Zk.length:Int) - 1)=true:=zi.2 ⟨h0,by show n≤((60:Nat):Int) - 1;omega⟩;unfold Zx;rw [hd,h2,mv,y0 rfl];exact congrArg (dI n (JW side p 24 0)) (Cc n.toNat)
theorem Mc: ∀ (m:Nat) (i:Int),0≤i→i+m=24→dL Zk (JW side p 24 0) (-1) side p.length m i (p.take (i*70).toNat)=p
 |0,i,i0,hi=>by rw [dL,rT (by omega)]
 |m+1,i,i0,hi=>by
  rw [dL];split
  ·rename_i h;rw [Za] at h;have h7:i*70<(p.length:Int):=by omega
   have h2:=zi.1 hs;have hv:eN side i=8+side*24+i:=y0 hs;rw [hv,Eo hs hp _ (by omega) (by omega),S8 side p i h7 24 0 [] i0 (by omega),TM p i i0 h7];exact Mc m (i+1) (by omega) (by omega)
  ·rename_i h;rw [Za] at h;exact rT (by omega)
theorem TN:Ce Zk (JW side p 24 0) (-1) side p.length (crc p)=(p,true):=by have h:dL Zk (JW side p 24 0) (-1) side p.length 24 0 []=p:=Mc hs hp 24 0 (yP 0) rfl;unfold Ce;rw [h,y9 (by omega),y9 (by omega),g8,List.take_length,y0 rfl]
theorem NJ (i:Int) (h0:0≤i) (h1:i<24):Zx Zk (JW side p 24 0) (-1) (eN (1 - side) i)=[]:=by have h2:=zi.1 hs;have hv:eN (1 - side) i=8+(1 - side)*24+i:=y0 (zi.2 ⟨by omega,by omega⟩);rw [hv,Eo hs hp _ (by omega) (by omega),Cm side p _ 24 0 [] (by omega)]
end
theorem Ga (s:List y8) (c:List yw) (z:Int) (b:Bool) (h1:s.length≤1048576) (h2:c.length≤1048576):qD (s,c,z,b,s,c,z,b)=some true:=by
 have l4: ∀ (k0:Bool×List y8×List yw×Int×Bool×List y8×List yw×Int×Bool→Option Bool) (k1:List y8×List yw×Int×Bool×List y8×List yw×Int×Bool→Option Bool),Qp k0 k1 (0,s,c,z,b,s,c,z,b)=k1 (s,c,z,b,s,c,z,b):=by
  intro k0 k1;unfold Qp;refine Ym (step:=Ko k0 k1) (fun t:Kn=>s.length - t.1.toNat) (fun t=> ∃ i:Int,t=(i,s,c,z,b,s,c,z,b)∧0≤i) (fun _=>k1 (s,c,z,b,s,c,z,b)) ?_ _ ⟨0,rfl,yP 0⟩ (by simp only;omega);rintro again t ⟨i,rfl,i0⟩ hag;unfold Ko nz;simp only;by_cases hi:i<(s.length:Int)
  ·have hw:Go.IntKind.wrap .i64 (i+1)=i+1:=zb (by omega) (by omega);simp only [yG hi,yg,i0,hi,yo,g9,yJ,yi,hw];exact hag _ ⟨i+1,rfl,by omega⟩ (by simp only;omega)
  ·rw [yX hi,yi]
 have l9: ∀ (k0:Bool→Option Bool) (k1:Unit→Option Bool),Qq k0 k1 (0,s,c,z,b,s,c,z,b)=k1 ():=by
  intro k0 k1;unfold Qq;refine Ym (step:=Kq k0 k1) (fun t:Kp=>c.length - t.1.toNat) (fun t=> ∃ i:Int,t=(i,s,c,z,b,s,c,z,b)∧0≤i) (fun _=>k1 ()) ?_ _ ⟨0,rfl,yP 0⟩ (by simp only;omega);rintro again t ⟨i,rfl,i0⟩ hag;unfold Kq nz;simp only;by_cases hi:i<(c.length:Int)
  ·have hw:Go.IntKind.wrap .i64 (i+1)=i+1:=zb (by omega) (by omega);simp only [yG hi,yg,i0,hi,yo,g9,bne_self_eq_false,yJ,yi,zzal0,hw];exact hag _ ⟨i+1,rfl,by omega⟩ (by simp only;omega)
  ·rw [yX hi,yi]
 unfold qD nz;simp only [bne_self_eq_false,g9,yi,zzal0,yJ,l4,l9]
theorem Md (x:List Int) (hx:x.length≤1099511627776):rJ (W5 x):=by obtain ⟨q,t,l,cs,vs,z,e,h⟩:=TD x hx;unfold W5 nz;rw [e];exact ⟨_,_,_,_,_,_,rfl,h⟩
theorem TO (x:List Int) (hb:isBytes x):wI x=some true:=by
 unfold wI od nz;simp only [zzal0];by_cases hbig:(x.length:Int)>1048576
 ·rw [yG hbig];rfl
 ·rw [yX hbig,yi];have hx:x.length≤1099511627776:=by omega
  obtain ⟨q,t,l,cs,vs,z,e1,hS⟩:=Md x hx;obtain ⟨v,ev,v0⟩:=yjH x 2 hb (by omega) (by omega) (by omega);obtain ⟨hpl,hpb⟩:=ud q t l cs vs z;have ep:wz (q,t,l,cs,vs,z)=some (ZL q t l cs vs z):=lb q t l cs vs z hS.tq.T hS.S.2.2.2.1 hS.S.2.2.2.2.1 hS.S.2.2.2.2.2 hS.N;generalize ZL q t l cs vs z=p at hpl hpb ep;have hv:Int.tmod v 2=v % 2:=Es v0;have hs:Yn (v % 2) 0 1=true:=zi.2 (by omega);generalize v % 2=side at hv hs;have h01:=zi.1 hs;have ew:ZQ (Zk,[],-1,false,side,p)=some (Zk,JW side p 24 0,-1,false):=by rw [dz Zk [] (-1) false side p (i7 mu),Em hs hpl]
  have hB:=G8 (z:= -1) (b:=false) (side:=side) mu hpb;rw [Em hs hpl] at hB;have hd:=En hs hpl;have hG:td Zk (JW side p 24 0) (-1):=⟨fun _=>hB,YI hB.2.2.1 (by decide),YI hB.2.2.2 (by decide)⟩
  have er:YN (Zk,JW side p 24 0,-1,false,1,side,(p.length:Int),crc p,1)=some (p,true):=by rw [qQ _ _ _ _ _ _ _ _ _ hG,TN hs hpl]
  have l11: ∀ (k0:List Int×Bool×List Int×Bool×Int×Bool×List Int×List y8×List yw→Option Bool) (k1:List Int×List Int×Bool×Int×Bool×List Int×List y8×List yw→Option Bool),qE k0 k1 (x,p,side,true,0,-1,false,p,Zk,JW side p 24 0)=k1 (x,p,true,-1,false,p,Zk,JW side p 24 0):=by
   intro k0 k1;unfold qE;refine Ym (step:=kf k0 k1) (fun t:ke=>25 - t.2.2.2.2.1.toNat) (fun t=> ∃ i:Int,t=(x,p,side,true,i,-1,false,p,Zk,JW side p 24 0)∧0≤i) (fun _=>k1 (x,p,true,-1,false,p,Zk,JW side p 24 0)) ?_ _ ⟨0,rfl,yP 0⟩ (by simp);rintro again t ⟨i,rfl,i0⟩ hag;unfold kf nz;simp only;by_cases hi:i<24
   ·have hw:Go.IntKind.wrap .i64 (i+1)=i+1:=zb (by omega) (by omega);have hw1:Go.IntKind.wrap .i64 (1 - side)=1 - side:=zb (by omega) (by omega);simp only [yG hi,yg,hw1,nL (1 - side) i i0 (by omega),qP _ _ _ _ _ hG,NJ hs hpl i i0 hi,zzal0,hw,yr];exact hag _ ⟨i+1,rfl,by omega⟩ (by simp only;omega)
   ·rw [yX hi,yi]
  obtain ⟨s1,c1,z1,b1,d1,p1,f1,hB1,hp1,hl1⟩:=TJ x hx;obtain ⟨s2,c2,z2,b2,g1,g2,g3,g4,g5,f2,hB2⟩:=TK x hx;obtain ⟨s3,c3,z3,b3,f3,hB3⟩:=TL x hx;have hm: ∀ {s:List y8} {c:List yw} (z:Int),dH s c→td s c z:=fun z h=>⟨fun _=>h,YI h.2.2.1 (by decide),YI h.2.2.2 (by decide)⟩
  have w1:=dz s1 c1 z1 b1 d1 p1 (i7 hB1);have w2:=dy s1 c1 z1 b1 d1 p1 (i7 hB1);have w3:=G8 (z:=z1) (b:=b1) (side:=d1) hB1 hp1;generalize dx s1 c1 z1 b1 d1 p1=W at w1 w2 w3;obtain ⟨W1,W2,W3,W4⟩:=W;have r1:=qQ s2 c2 z2 b2 g1 g2 g3 g4 g5 (hm z2 hB2);have r2:=eO s2 c2 z2 b2 g1 g2 g3 g4 g5 (hm z2 hB2);generalize Ce s2 c2 z2 g2 g3 g4=Q at r1 r2;have t1:=Cl s3 c3 z3 b3 (hm z3 hB3);have t2:=Ck s3 c3 z3 b3 (hm z3 hB3);generalize y5g (Ma s3 c3 z3)=Y at t1 t2;have hK:JB (Zk,JW side p 24 0,-1,false)=some true:=by rw [K_ _ _ _ _ hG.2.1 hG.2.2,(aA _ _ _).2 hd]
  have hsd:=Ga W1 W2 W3 W4 (YI w3.2.2.1 (by decide)) (YI w3.2.2.2 (by decide));simp only [Cd,e1,ep,ev,hv,ew,eH p hpb (by omega),er,zzal0,l11,f1,f2,f3,r1,r2,t1,t2,hK,w1,w2,hsd,g9,mv,yg]
end Go.Proofs.YtekbnpmmjciloaaGreat.Pl
