/- What functions compute, and that they do; part 1 of B; by a program (dec.py). No condition. -/
import Derived.Test.YtekbnpmmjciloaaGreatDB0
set_option linter.all false
namespace Go.Proofs.YtekbnpmmjciloaaGreat.XB
open Go.Proofs.YtekbnpmmjciloaaGreat.R
set_option maxRecDepth 100000
noncomputable section
variable {R:Type}
abbrev gE:Type:=yfU
def cr (k0:Qz4→Option R) (a:gE→Option R) (x:gE):Option R:=nz (Z0 x.E 8 (ZE (Int.tmod x.1 2) 1 (a (Go.bits .xor .i64 (fY (Int.tdiv x.1 2)) 2197175160,wX x.2 (zh x.E))) (a (fY (Int.tdiv x.1 2),wX x.2 (zh x.E)))) (k0 (x.1,x.b,x.c,x.d)))
def gF k0:=iter (@cr R k0) FUEL
abbrev gG:Type:=Qz4
def gH (k0:Int→Option R) (a:gG→Option R) (x:gG):Option R:=nz (Z0 x.D x.c (z6 x.b x.D (gF (fun r=>a (wX r (zh r.D))) (Go.bits .xor .i64 x.1 (fY (wP x.b x.D)),Y9 x.2 0))) (k0 x.1))
def pE k0:=iter (@gH R k0) FUEL
def Qe (x:List yn):Option Int:=nz (pE (fun r=>yh (Go.bits .xor .i64 r 4294967295)) (4294967295,x,x.z,0))
def ydO:List QF:=[]
def PD (t:Elts Xp):St:=nd (stP Xp [.d 3,.v 1,.d 3,.v 3,.d 7,.v 1,.d 13] [] t)
def yaU:Gk gE:=fun κ=>nd (cr (zM κ (some 2) qz4 [.d 3,.v 1,.d 3,.v 3,.d 21] []))
def PE (t:Elts qz4):St:=nd (stP qz4 [.d 3,.v 1,.d 3,.v 3,.d 21] [] t)
def yaV:Gk gG:=fun κ=>nd (gH (zM κ (some 0) [tI] [.d 3,.v 1,.d 27] []))
def ydP:Lp:=YT 3 (zR qz4 PE) @yaV (YT 7 (zR Xp PD) @yaU ZM)
theorem yiG:LK ydO ydP 11 Tryz.f11 1:=Zm 7 PD @yaU
theorem yiH:LK ydO ydP 11 Tryz.f11 0:=Zm 3 PE @yaV
def q11:=qN 11 Qe yhj 2 ydO ydP Tryz.func11 ⟨yiH,yiG,trivial⟩
abbrev Qg:Type:=yfV
def Kb (k0:yfW→Option R) (k1:Xr→Option R) (a:Qg→Option R) (x:Qg):Option R:=nz (zge x.b 0 (z6 x.d x.b (zw ((zr x.d x.b).1==x.1) (z6 x.d x.b (ye (zE ([(zr x.d x.b).2]:List y8)) fun r=>k0 (x.1,mH x.C r))) (a (x.1,jE x.b,oa x.C)))) (k1 (x.1,x.C)))
def fM k0 k1:=iter (@Kb R k0 k1) FUEL
def Zf (x:Xs):Option (List yn):=nz (ye (JB (x.1,x.b,x.c,x.d)) fun r=>wM (!r) (ye (yI (x.E,0,jE x.1.z)) fun s=>yh (!s)) fun t=>zw t (yh ([]:List yn)) (fM (fun u=>yh u.F) (fun v=>z6 v.b v.1 (ye (zE ([YK v.b v.1]:List y8)) fun w=>yh w)) (x.E,jE x.b.z,x.1,x.b,x.c,x.d)))
def yiI:List QF:=[q21,Hz,q44]
def PF (t:Elts Xq):St:=nd (stP Xq [.d 1,.v 1,.b 2,.d 2,.v 1,.d 43] [(2,[.v 4])] t)
def yaW:Gk Qg:=fun κ=>nd (Kb (zM κ none yfX [.d 1,.v 1,.b 2,.d 1,.o 10000000,.d 44] [(2,[.v 4]),(10000000,[])]) (zM κ (some 0) AZ [.d 1,.v 1,.b 2,.d 46] [(2,[.v 4])]))
def yiJ:Lp:=YT 4 (zR Xq PF) @yaW ZM
theorem yiK:LK yiI yiJ 13 Tryz.f13 0:=Zm 4 PF @yaW
def q13:=qN 13 Zf yhk 1 yiI yiJ Tryz.func13 ⟨yiK,trivial⟩
abbrev vU:Type:=y5V
def jY (k0:y5W→Option R) (a:vU→Option R) (x:vU):Option R:=nz (KA (decide (x.1<24)) (decide (x.K.z<x.h)) fun r=>zw r (ye (jw (x.g,x.1)) fun s=>ye (Zf (fX x.2 s)) fun t=>YS x.K t 1 (a (zh x.1,zT9 x.2 (x.K++t)))) (k0 x.F))
def vV k0:=iter (@jY R k0) FUEL
def YN (x:Xt):Option y5Y:=nz (vV (fun r=>ye (yI (r.c,0,r.F.z)) fun s=>zw (!s) (yh (([]:List yn),false)) (oc 0 r.c r.F.z (ye (Qe (List.take r.c.toNat r.F)) fun t=>zw (t !=r.d) (yh (([]:List yn),false)) (oc 0 r.c r.F.z (yh (List.take r.c.toNat r.F,true)))))) (0,zG9 x ([]:List yn)))
def yiL:List QF:=[q11,q13,q14,Hz]
def PG (t:Elts Dt):St:=nd (stP Dt [.d 2,.b 2,.b 3,.d 2,.o 10000000,.v 1,.d 40] [(2,[.v 4]),(3,[.v 5]),(10000000,[])] t)
def yaX:Gk vU:=fun κ=>nd (jY (zM κ (some 0) y5X [.d 3,.b 3,.d 2,.o 10000000,.d 41] [(3,[.v 5]),(10000000,[])]))
def yiM:Lp:=YT 3 (zR Dt PG) @yaX ZM
theorem yiN:LK yiL yiM 12 Tryz.f12 0:=Zm 3 PG @yaX
def q12:=qN 12 YN yhl 1 yiL yiM Tryz.func12 ⟨yiN,trivial⟩
abbrev bJ:Type:=OC ⊕ OE
def YH (k0:Xk→Option R) (k1:Xm→Option R) (a:bJ→Option R):bJ→Option R
 | .inl x=>nz (Z0 x.b x.1 (if List.length ([([]:List yn)]:List y8)*24<140737488355328 then a (Sum.inr (x.1,zh x.b,mH x.C ([([]:List yn)]:List y8))) else none) (k0 x.C))
 | .inr x=>nz (Z0 x.b x.1 (YS x.G ([([]:List yn)]:List y8) 24 (a (Sum.inr (x.1,zh x.b,fX x.C (x.G++([([]:List yn)]:List y8)))))) (k1 x.C))
def bK k0 k1:=iter (@YH R k0 k1) FUEL
def ZD (x:Int):Option uV:=nz (ye (yx (x,1,60)) fun r=>zw (!r) (yh (([]:List y8),([]:List yw),0,false)) (bK (fun s=>yh (([]:List y8),([]:List yw),s.c,s.D)) (fun t=>yh (t.E,([]:List yw),t.c,t.d)) (Sum.inl (x,0,0,false,-1,false))))
def y1r:List QF:=[mI]
def xf (t:Elts OD):St:=nd (stP OD [.v 1,.d 1,.b 2,.b 3,.v 1,.d 17] [(2,[.s,.s,.v 2]),(3,[.s,.s,.v 2])] t)
theorem y48: ∀ s t,zR OD xf s=some t→xf t=s:=Y3 fun t=>by kernel_rfl
def xg (t:Elts OG):St:=nd (stP OG [.v 1,.d 1,.b 2,.b 3,.v 1,.d 17] [(2,[.s,.s,.v 2]),(3,[.o 10000000,.s,.v 2]),(10000000,[])] t)
theorem y49: ∀ s t,zR OG xg s=some t→xg t=s:=Y3 fun t=>by kernel_rfl
def xh:(OC ⊕ OE)→St:=Sum.elim xf xg
def F9 (s:St):Option (OC ⊕ OE):=((zR OD xf s).map Sum.inl).or (((zR OG xg) s).map Sum.inr)
theorem y4a: ∀ s t,F9 s=some t→xh t=s:=Kz y48 y49
def PH:Gk bJ:=fun κ=>nd (YH (zM κ (some 0) Xl [.d 2,.b 2,.b 3,.d 18] [(2,[.s,.s,.v 2]),(3,[.s,.s,.v 2])]) (zM κ (some 0) Xn [.d 2,.b 2,.b 3,.d 18] [(2,[.s,.s,.v 2]),(3,[.o 10000000,.s,.v 2]),(10000000,[])]))
def y1s:Lp:=YT 5 F9 @PH ZM
theorem y4b:LF y1r y1s 46 5 Tryz.f46 0 xh @PH fun v:OC=> .inl v:=fun R κ again v=>by kernel_rfl
theorem y4c:LF y1r y1s 46 5 Tryz.f46 0 xh @PH fun v:OE=> .inr v:=fun R κ again v=>by kernel_rfl
theorem yiO:LF y1r y1s 46 5 Tryz.f46 0 xh @PH fun t=>t:=(LC.sum y4b y4c)
theorem yiP:LK y1r y1s 46 Tryz.f46 0:=Gc (u:=F9) y4a yiO
def q46:=qN 46 ZD yhm 1 y1r y1s Tryz.func46 ⟨yiP,trivial⟩
abbrev Qh:Type:=yfY
def Kc (k0:yfZ→Option R) (a:Qh→Option R) (x:Qh):Option R:=nz (Z0 x.b x.1 (ye (jt (x.c,x.d,x.e)) fun r=>YS x.F ([Go.IntKind.wrap .u8 r.1]:List yn) 1 (a (x.1,zh x.b,Y9 r.2 (x.F++([Go.IntKind.wrap .u8 r.1]:List yn))))) (k0 x.C))
def fN k0:=iter (@Kc R k0) FUEL
def wA (x:US):Option y5Z:=nz (fN (fun r=>yh (r.D,r.1,r.b,r.c)) (x.D,0,wX x ([]:List yn)))
def yiQ:List QF:=[yhT]
def PI (t:Elts Xu):St:=nd (stP Xu [.b 900,.v 1,.d 3,.o 10000000,.v 1,.d 13] [(900,[.v 3]),(10000000,[])] t)
def yaY:Gk Qh:=fun κ=>nd (Kc (zM κ (some 0) yf_ [.b 900,.d 4,.o 10000000,.d 14] [(900,[.v 3]),(10000000,[])]))
def yiR:Lp:=YT 3 (zR Xu PI) @yaY ZM
theorem yiS:LK yiQ yiR 60 Tryz.f60 0:=Zm 3 PI @yaY
def q60:=qN 60 wA yhn 1 yiQ yiR Tryz.func60 ⟨yiS,trivial⟩
def Vc (x:uV):Option On:=nz (ZE x.c 0 (yh (false,x.1,x.b,-1,true)) (nC x.c 0 (yh (true,x.1,x.b,jE x.c,x.D)) (yh (true,x))))
def yiT:=q0 221 Vc y8g [] Tryz.func221
def Zg (x:Ds):Option uV:=nz (wM x.d (ye (yx (x.e,0,jE x.1.z)) fun r=>yh (!r)) fun s=>dO s (decide (x.F.z>80)) fun t=>dO t (decide (x.b.z≥60)) fun u=>zw u (yh (x.1,x.b,x.c,x.d)) (ye (Vc (x.1,x.b,x.c,x.d)) fun v=>zw (!v.1) (yh v.2) (YS ([]:List yn) x.F 1 (YS v.c ([(x.e,([]:List yn)++x.F)]:List yw) 32 (yh (v.b,v.c++([(x.e,([]:List yn)++x.F)]:List yw),v.d,v.E))))))
def yiU:=q0 140 Zg y8h [mI,yiT] Tryz.func140
abbrev Qi:Type:=yg0
def Kd (k0:y5_→Option R) (a:Qi→Option R) (x:Qi):Option R:=nz (Z0 x.1 x.E.z (z6 x.E x.1 (z6 x.E x.1 (z6 x.d ((zr x.E x.1).1) (a (zh x.1,x.b,x.c,lh x.d ((zr x.E x.1).1) ((zr x.E x.1).2),x.E))))) (k0 x.2))
def fO k0:=iter (@Kd R k0) FUEL
def qg (x:uV):Option uV:=nz (zw x.D (yh x) (ye (Vc x) fun r=>zw (!r.1) (yh r.2) (fO (fun s=>yh (s.c,([]:List yw),s.1,s.b)) (0,r.d,r.E,r.b,r.c))))
def yaZ:List QF:=[yiT]
def IU (t:Elts Xv):St:=nd (stP Xv [.b 900,.d 1,.v 1,.d 43] [(900,[.o 10000000,.o 10000001,.v 2]),(10000000,[]),(10000001,[])] t)
def y1t:Gk Qi:=fun κ=>nd (Kd (zM κ (some 0) y60 [.b 900,.d 45] [(900,[.o 10000000,.o 10000001,.v 2]),(10000000,[]),(10000001,[])]))
def ya_:Lp:=YT 2 (zR Xv IU) @y1t ZM
theorem ydQ:LK yaZ ya_ 210 Tryz.f210 0:=Zm 2 IU @y1t
def ymh:=qN 210 qg y8i 1 yaZ ya_ Tryz.func210 ⟨ydQ,trivial⟩
abbrev bL:Type:=yg1
def vH (k0:Xx→Option R) (a:bL→Option R) (x:bL):Option R:=nz (nC x.1 0 (ye (Zd (wX x.2 4)) fun r=>zw r.1 (ye (qg (x.i,x.J,x.g,x.h)) fun s=>a (jE x.1,Y9 r.2 (x.e,x.f,s.c,s.D,s.1,s.b))) (ye (yd (Y9 r.2 x.i.z)) fun t=>ye (yd (Y9 t.2 4)) fun u=>ye (wA (Y9 u.2 u.1)) fun v=>ye (Zg (x.i,x.J,x.g,x.h,t.1,v.1)) fun w=>a (jE x.1,Y9 v.2 (x.e,x.f,w.c,w.D,w.1,w.b)))) (k0 x.2))
def iV k0:=iter (@vH R k0) FUEL
def QY (x:Co):Option y61:=nz (ye (yd (Y9 x 6)) fun r=>ye (ZD (JP 2 r.1)) fun s=>ye (yd (Y9 r.2 8)) fun t=>iV (fun u=>yh (u.h,u.I,u.f,u.g,u.1,u.b,u.c)) (mH t (0,false,s.c,s.D,s.1,s.b)))
def yb0:List QF:=[q46,q47,pd,q60,yiU,ymh]
def IV (t:Elts Xw):St:=nd (stP Xw [.b 900,.d 1,.b 2,.b 3,.v 1,.d 24] [(900,[.v 3]),(2,[.s,.s,.v 2]),(3,[.o 10000000,.o 10000001,.v 2]),(10000000,[]),(10000001,[])] t)
def y1u:Gk bL:=fun κ=>nd (vH (zM κ (some 0) Ho [.b 900,.d 1,.b 2,.b 3,.d 25] [(900,[.v 3]),(2,[.s,.s,.v 2]),(3,[.o 10000000,.o 10000001,.v 2]),(10000000,[]),(10000001,[])]))
def yb1:Lp:=YT 3 (zR Xw IV) @y1u ZM
theorem ydR:LK yb0 yb1 119 Tryz.f119 0:=Zm 3 IV @y1u
def ymi:=qN 119 QY y8j 1 yb0 yb1 Tryz.func119 ⟨ydR,trivial⟩
abbrev dm:Type:=Xx
def qh (k0:Xx→Option R) (a:dm→Option R) (x:dm):Option R:=nz (ye (yd (wX x 3)) fun r=>Z0 x.I.z (JP 59 r.1) (YS x.I ([(0,([]:List yn))]:List yw) 32 (a (Y9 r.2 (Pb x.D (x.I++([(0,([]:List yn))]:List yw)))))) (k0 (Y9 r.2 x.D)))
def l_ k0:=iter (@qh R k0) FUEL
def qi (x:Co):Option y61:=nz (ye (QY x) fun r=>ye (yd (Y9 r.E 12)) fun s=>ZE s.1 0 (ye (yd (Y9 s.2 2)) fun t=>if 0≤JP 80 t.1 then if JP 80 t.1≤JP 80 t.1 then if JP 80 t.1*((1:Nat):Int)≤140737488351232 then z6 r.1 0 (yh (lh r.1 0 (List.replicate ((JP 80 t.1).toNat) y3e),wX r.2 (kl t.2))) else none else none else none) (ZE s.1 1 (ye (yE (Y9 s.2 ([-1,0,99]:List yf))) fun u=>ye (wA (Y9 u.2 2)) fun v=>YS r.b ([(u.1,v.1)]:List yw) 32 (yh (r.1,r.b++([(u.1,v.1)]:List yw),r.c,r.d,kl v.2))) (ZE s.1 2 (l_ (fun w=>yh (w.h,w.I,w.f,w.g,w.1,w.b,w.c)) (Y9 s.2 (0,false,r.c,r.d,r.1,r.b))) (ZE s.1 3 (ye (yE (Y9 s.2 ([0,1,5,-2,1001]:List yf))) fun p=>yh (r.1,r.b,p.1,r.d,p.2)) (ZE s.1 4 (yh (wX r (true,s.2))) (ZE s.1 5 (yh (r.1,r.b,0,r.d,kl s.2)) (yh (fX r s.2))))))))
def yiV:List QF:=[SO,pd,q60,ymi]
def PJ (t:Elts Ho):St:=nd (stP Ho [.b 900,.d 1,.b 2,.b 3,.d 54] [(900,[.v 3]),(2,[.s,.s,.v 2]),(3,[.o 10000000,.o 10000001,.v 2]),(10000000,[]),(10000001,[])] t)
def yb2:Gk dm:=fun κ=>nd (qh (zM κ (some 1) Ho [.b 900,.d 1,.b 2,.b 3,.d 54] [(900,[.v 3]),(2,[.s,.s,.v 2]),(3,[.o 10000000,.o 10000001,.v 2]),(10000000,[]),(10000001,[])]))
def yiW:Lp:=YT 8 (zR Ho PJ) @yb2 ZM
theorem yiX:LK yiV yiW 48 Tryz.f48 0:=Zm 8 PJ @yb2
def q48:=qN 48 qi yho 1 yiV yiW Tryz.func48 ⟨yiX,trivial⟩
def Jd (x:Co):Option y5Z:=nz (ye (Zd (Y9 x 10)) fun r=>zw r.1 (ye (yd (Y9 r.2 2)) fun s=>if 0≤JP 1680 s.1 then if JP 1680 s.1≤JP 1680 s.1 then if JP 1680 s.1*((1:Nat):Int)≤140737488351232 then yh (List.replicate ((JP 1680 s.1).toNat) y3e,kl s.2) else none else none else none) (ye (yE (Y9 r.2 ([0,1,69,70,71,140,200]:List yf))) fun t=>if 0≤t.1 then if t.1≤t.1 then if t.1*((1:Nat):Int)≤140737488351232 then yh (List.replicate t.1.toNat y3e,kl t.2) else none else none else none))
def q50:=q0 50 Jd yhp [q47,SO,pd] Tryz.func50
def J3 (x:List yn):Option Ds:=nz (ye (kX x) fun r=>ye (ZD 60) fun s=>ye (Zd (Y9 r 4)) fun t=>zw t.1 (ye (qi t.2) fun u=>ye (yE (Y9 u.E ([-1,-1,0,1,2]:List yf))) fun v=>ye (yE (Y9 v.2 ([0,1,2]:List yf))) fun w=>ye (Jd w.2) fun p=>yh (u.1,u.b,v.1,u.d,w.1,p.1)) (ye (yE (Y9 t.2 ([-1,-1,0,1,2]:List yf))) fun q=>ye (yE (Y9 q.2 ([0,1,2]:List yf))) fun m=>ye (Jd m.2) fun n=>yh (s.1,s.b,q.1,s.D,m.1,n.1)))
def q15:=q0 15 J3 yhq [q45,q46,q47,q48,SO,q50] Tryz.func15
abbrev bM:Type:=tU ⊕ il
def je (k0:y5P→Option R) (k1:y5R→Option R) (a:bM→Option R):bM→Option R
 | .inl x=>nz (Z0 x.1 x.b.z (z6 x.b x.1 (YS ([]:List yn) (YK x.b x.1) 1 (if List.length ([([]:List yn)++YK x.b x.1]:List y8)*24<140737488355328 then a (Sum.inr (zh x.1,zG8 x.2 ([([]:List yn)++YK x.b x.1]:List y8))) else none))) (k0 x.2))
 | .inr x=>nz (Z0 x.1 x.b.z (z6 x.b x.1 (YS ([]:List yn) (YK x.b x.1) 1 (YS x.J ([([]:List yn)++YK x.b x.1]:List y8) 24 (a (Sum.inr (zh x.1,zT8 x.2 (x.J++([([]:List yn)++YK x.b x.1]:List y8)))))))) (k1 x.2))
def bN k0 k1:=iter (@je R k0 k1) FUEL
abbrev bO:Type:=tU ⊕ Du ⊕ il ⊕ tX
def Y2 (k0:Xk→Option R) (k1:y5T→Option R) (k2:Xm→Option R) (k3:OA→Option R) (a:bO→Option R):bO→Option R
 | .inl x=>nz (Z0 x.1 x.c.z (z6 x.c x.1 (z6 x.c x.1 (YS ([]:List yn) ((zr x.c x.1).2) 1 (if List.length ([((zr x.c x.1).1,([]:List yn)++(zr x.c x.1).2)]:List yw)*32<140737488355328 then a (Sum.inr (Sum.inl (zh x.1,zG8 x.2 ([((zr x.c x.1).1,([]:List yn)++(zr x.c x.1).2)]:List yw)))) else none)))) (k0 x.F))
 | .inr (.inl x)=>nz (Z0 x.1 x.c.z (z6 x.c x.1 (z6 x.c x.1 (YS ([]:List yn) ((zr x.c x.1).2) 1 (YS x.J ([((zr x.c x.1).1,([]:List yn)++(zr x.c x.1).2)]:List yw) 32 (a (Sum.inr (Sum.inl (zh x.1,zT8 x.2 (x.J++([((zr x.c x.1).1,([]:List yn)++(zr x.c x.1).2)]:List yw)))))))))) (k1 x.F))
 | .inr (.inr (.inl x))=>nz (Z0 x.1 x.c.z (z6 x.c x.1 (z6 x.c x.1 (YS ([]:List yn) ((zr x.c x.1).2) 1 (if List.length ([((zr x.c x.1).1,([]:List yn)++(zr x.c x.1).2)]:List yw)*32<140737488355328 then a (Sum.inr (Sum.inr (Sum.inr (zh x.1,zG9 x.2 ([((zr x.c x.1).1,([]:List yn)++(zr x.c x.1).2)]:List yw))))) else none)))) (k2 x.F))
 | .inr (.inr (.inr x))=>nz (Z0 x.1 x.c.z (z6 x.c x.1 (z6 x.c x.1 (YS ([]:List yn) ((zr x.c x.1).2) 1 (YS x.K ([((zr x.c x.1).1,([]:List yn)++(zr x.c x.1).2)]:List yw) 32 (a (Sum.inr (Sum.inr (Sum.inr (zh x.1,zT9 x.2 (x.K++([((zr x.c x.1).1,([]:List yn)++(zr x.c x.1).2)]:List yw))))))))))) (k3 x.F))
def Je k0 k1 k2 k3:=iter (@Y2 R k0 k1 k2 k3) FUEL
def WQ (x:uV):Option uV:=nz (bN (fun r=>Je (fun s=>yh (([]:List y8),([]:List yw),s.c,s.D)) (fun t=>yh (([]:List y8),t.E,t.c,t.d)) (fun u=>yh (u.E,([]:List yw),u.c,u.d)) (fun v=>yh (v.e,v.F,v.c,v.d)) (Sum.inl (0,zF8 r))) (fun w=>Je (fun p=>yh (([]:List y8),([]:List yw),p.c,p.D)) (fun q=>yh (([]:List y8),q.E,q.c,q.d)) (fun m=>yh (m.E,([]:List yw),m.c,m.d)) (fun n=>yh (n.e,n.F,n.c,n.d)) (Sum.inr (Sum.inr (Sum.inl (0,zF9 w))))) (Sum.inl (0,mH x (0,false,x.c,x.D))))
def B8:List QF:=[]
def xi (t:Elts tV):St:=nd (stP tV [.d 1,.b 1,.b 2,.b 3,.v 1,.d 53] [(1,[.v 4]),(2,[.s,.s,.v 2]),(3,[.s,.s,.v 2])] t)
theorem y4d: ∀ s t,zR tV xi s=some t→xi t=s:=Y3 fun t=>by kernel_rfl
def xk (t:Elts tW):St:=nd (stP tW [.d 1,.b 1,.b 2,.b 3,.v 1,.d 53] [(1,[.v 4]),(2,[.s,.s,.v 2]),(3,[.o 10000000,.s,.v 2]),(10000000,[])] t)
theorem y4e: ∀ s t,zR tW xk s=some t→xk t=s:=Y3 fun t=>by kernel_rfl
def xl:(tU ⊕ il)→St:=Sum.elim xi xk
def Fa (s:St):Option (tU ⊕ il):=((zR tV xi s).map Sum.inl).or (((zR tW xk) s).map Sum.inr)
theorem y4f: ∀ s t,Fa s=some t→xl t=s:=Kz y4d y4e
def PL:Gk bM:=fun κ=>nd (je (zM κ (some 0) y5Q [.d 1,.b 1,.b 2,.b 3,.d 54] [(1,[.v 4]),(2,[.s,.s,.v 2]),(3,[.s,.s,.v 2])]) (zM κ (some 0) y5S [.d 1,.b 1,.b 2,.b 3,.d 54] [(1,[.v 4]),(2,[.s,.s,.v 2]),(3,[.o 10000000,.s,.v 2]),(10000000,[])]))
def xm (t:Elts tV):St:=nd (stP tV [.d 1,.b 1,.b 2,.b 3,.d 1,.v 1,.d 52] [(1,[.v 4]),(2,[.s,.s,.v 2]),(3,[.s,.s,.v 2])] t)
theorem y4g: ∀ s t,zR tV xm s=some t→xm t=s:=Y3 fun t=>by kernel_rfl
def xn (t:Elts OH):St:=nd (stP OH [.d 1,.b 1,.b 2,.b 3,.d 1,.v 1,.d 52] [(1,[.v 4]),(2,[.s,.s,.v 2]),(3,[.s,.o 10000000,.v 2]),(10000000,[])] t)
theorem y4h: ∀ s t,zR OH xn s=some t→xn t=s:=Y3 fun t=>by kernel_rfl
def xo (t:Elts tW):St:=nd (stP tW [.d 1,.b 1,.b 2,.b 3,.d 1,.v 1,.d 52] [(1,[.v 4]),(2,[.s,.s,.v 2]),(3,[.o 10000000,.s,.v 2]),(10000000,[])] t)
theorem y4i: ∀ s t,zR tW xo s=some t→xo t=s:=Y3 fun t=>by kernel_rfl
def xp (t:Elts OI):St:=nd (stP OI [.d 1,.b 1,.b 2,.b 3,.d 1,.v 1,.d 52] [(1,[.v 4]),(2,[.s,.s,.v 2]),(3,[.o 10000000,.o 10000001,.v 2]),(10000000,[]),(10000001,[])] t)
theorem y4j: ∀ s t,zR OI xp s=some t→xp t=s:=Y3 fun t=>by kernel_rfl
def PM:(il ⊕ tX)→St:=Sum.elim xo xp
def PN (s:St):Option (il ⊕ tX):=((zR tW xo s).map Sum.inl).or (((zR OI xp) s).map Sum.inr)
theorem y4k: ∀ s t,PN s=some t→PM t=s:=Kz y4i y4j
def PP:(Du ⊕ il ⊕ tX)→St:=Sum.elim xn PM
def PR (s:St):Option (Du ⊕ il ⊕ tX):=((zR OH xn s).map Sum.inl).or ((PN s).map Sum.inr)
theorem y4l: ∀ s t,PR s=some t→PP t=s:=Kz y4h y4k
def mL:(tU ⊕ Du ⊕ il ⊕ tX)→St:=Sum.elim xm PP
def Fb (s:St):Option (tU ⊕ Du ⊕ il ⊕ tX):=((zR tV xm s).map Sum.inl).or ((PR s).map Sum.inr)
theorem y4m: ∀ s t,Fb s=some t→mL t=s:=Kz y4g y4l
def DE:Gk bO:=fun κ=>nd (Y2 (zM κ (some 2) Xl [.d 2,.b 2,.b 3,.d 54] [(2,[.s,.s,.v 2]),(3,[.s,.s,.v 2])]) (zM κ (some 2) y5U [.d 2,.b 2,.b 3,.d 54] [(2,[.s,.s,.v 2]),(3,[.s,.o 10000000,.v 2]),(10000000,[])]) (zM κ (some 2) Xn [.d 2,.b 2,.b 3,.d 54] [(2,[.s,.s,.v 2]),(3,[.o 10000000,.s,.v 2]),(10000000,[])]) (zM κ (some 2) OB [.d 2,.b 2,.b 3,.d 54] [(2,[.s,.s,.v 2]),(3,[.o 10000000,.o 10000001,.v 2]),(10000000,[]),(10000001,[])]))
def B9:Lp:=YT 7 Fb @DE (YT 3 Fa @PL ZM)
theorem y4n:LF B8 B9 65 3 Tryz.f65 0 xl @PL fun v:tU=> .inl v:=fun R κ again v=>by kernel_rfl
theorem y4o:LF B8 B9 65 3 Tryz.f65 0 xl @PL fun v:il=> .inr v:=fun R κ again v=>by kernel_rfl
theorem yiY:LF B8 B9 65 3 Tryz.f65 0 xl @PL fun t=>t:=(LC.sum y4n y4o)
theorem yiZ:LK B8 B9 65 Tryz.f65 0:=Gc (u:=Fa) y4f yiY
theorem y4p:LF B8 B9 65 7 Tryz.f65 1 mL @DE fun v:tU=> .inl v:=fun R κ again v=>by kernel_rfl
theorem y4q:LF B8 B9 65 7 Tryz.f65 1 mL @DE fun v:Du=> .inr (.inl v):=fun R κ again v=>by kernel_rfl
theorem y4r:LF B8 B9 65 7 Tryz.f65 1 mL @DE fun v:il=> .inr (.inr (.inl v)):=fun R κ again v=>by kernel_rfl
theorem y4s:LF B8 B9 65 7 Tryz.f65 1 mL @DE fun v:tX=> .inr (.inr (.inr v)):=fun R κ again v=>by kernel_rfl
theorem yi_:LF B8 B9 65 7 Tryz.f65 1 mL @DE fun t=>t:=(LC.sum y4p (LC.sum y4q (LC.sum y4r y4s)))
theorem yj0:LK B8 B9 65 Tryz.f65 1:=Gc (u:=Fb) y4m yi_
def q65:=qN 65 WQ yhr 2 B8 B9 Tryz.func65 ⟨yiZ,yj0,trivial⟩
abbrev dp:Type:=Xr
def kF (k0:On→Option R) (k1:uV→Option R) (a:dp→Option R) (x:dp):Option R:=nz (Z0 x.1 x.b.z (z6 x.b x.1 (nC ((YK x.b x.1).z) 80 (k0 (false,x.2)) (a (zh x.1,oa x.2)))) (k1 x.2))
def m5 k0 k1:=iter (@kF R k0 k1) FUEL
abbrev dq:Type:=Xr
def kG (k0:On→Option R) (k1:uV→Option R) (a:dq→Option R) (x:dq):Option R:=nz (Z0 x.1 x.c.z (z6 x.c x.1 (ye (yx ((zr x.c x.1).1,0,jE x.b.z)) fun r=>wM (!r) (z6 x.c x.1 (yh (decide (((List.length ((zr x.c x.1).2):Nat):Int)>80)))) fun s=>zw s (k0 (false,x.2)) (a (zh x.1,oa x.2)))) (k1 x.2))
def m6 k0 k1:=iter (@kG R k0 k1) FUEL
def W7 (x:uV):Option Bool:=nz (m5 (fun r=>yh r.1) (fun s=>m6 (fun t=>yh t.1) (fun u=>ye (yx (u.1.z,1,60)) fun v=>KA v (decide (u.b.z≤60)) fun w=>WM w (ye (yx (u.c,-1,1000)) fun p=>yh p) fun q=>yh q) (0,oa s)) (0,oa x))
def ydS:List QF:=[mI]
def PS (t:Elts AZ):St:=nd (stP AZ [.d 1,.b 1,.d 1,.v 1,.d 59] [(1,[.v 4])] t)
def yb3:Gk dp:=fun κ=>nd (kF (zM κ none Xi [.d 1,.b 1,.v 1,.d 60] [(1,[.v 4])]) (zM κ (some 0) ik [.d 1,.b 1,.d 61] [(1,[.v 4])]))
def PU (t:Elts AZ):St:=nd (stP AZ [.d 1,.b 1,.d 2,.v 1,.d 58] [(1,[.v 4])] t)
def yb4:Gk dq:=fun κ=>nd (kG (zM κ none Xi [.d 1,.b 1,.v 1,.d 60] [(1,[.v 4])]) (zM κ (some 2) ik [.d 1,.b 1,.d 61] [(1,[.v 4])]))
def ydT:Lp:=YT 7 (zR AZ PU) @yb4 (YT 2 (zR AZ PS) @yb3 ZM)
theorem yj1:LK ydS ydT 66 Tryz.f66 0:=Zm 2 PS @yb3
theorem yj2:LK ydS ydT 66 Tryz.f66 1:=Zm 7 PU @yb4
def q66:=qN 66 W7 yhs 2 ydS ydT Tryz.func66 ⟨yj1,yj2,trivial⟩
def Ze (x:Hl):Option Int:=nz (ye (yx (x.1,0,1)) fun r=>wM (!r) (ye (yx (x.2,0,23)) fun s=>yh (!s)) fun t=>zw t (yh (-1)) (yh (JP (JP 8 (dP x.1 24)) x.2)))
def q54:=q0 54 Ze yht [mI] Tryz.func54
abbrev qj:Type:=yg2
def ka (k0:y5_→Option R) (a:qj→Option R) (x:qj):Option R:=nz (Z0 (dP x.c 70) x.b.z (nC (dP (zh x.c) 70) x.b.z (ye (Ze (x.1,x.c)) fun r=>oc (dP x.c 70) x.b.z x.b.z (ye (Zg (x.f,x.G,x.d,x.e,r,aD x.b (dP x.c 70) x.b.z)) fun s=>a (x.1,x.b,zh x.c,s.c,s.D,s.1,s.b))) (ye (Ze (x.1,x.c)) fun t=>oc (dP x.c 70) (dP (zh x.c) 70) x.b.z (ye (Zg (x.f,x.G,x.d,x.e,t,aD x.b (dP x.c 70) (dP (zh x.c) 70))) fun u=>a (x.1,x.b,zh x.c,u.c,u.D,u.1,u.b)))) (k0 x.D))
def eE k0:=iter (@ka R k0) FUEL
def vJ (x:Ds):Option uV:=nz (eE (fun r=>yh (r.c,r.D,r.1,r.b)) (x.e,x.F,0,x.c,x.d,x.1,x.b))
def yj3:List QF:=[q54,yiU]
def PV (t:Elts Xy):St:=nd (stP Xy [.b 900,.v 2,.d 3,.v 1,.d 27] [(900,[.o 10000000,.o 10000001,.v 2]),(10000000,[]),(10000001,[])] t)
def yb5:Gk qj:=fun κ=>nd (ka (zM κ (some 0) y60 [.b 900,.d 33] [(900,[.o 10000000,.o 10000001,.v 2]),(10000000,[]),(10000001,[])]))
def yj4:Lp:=YT 1 (zR Xy PV) @yb5 ZM
theorem yj5:LK yj3 yj4 68 Tryz.f68 0:=Zm 1 PV @yb5
def q68:=qN 68 vJ yhu 1 yj3 yj4 Tryz.func68 ⟨yj5,trivial⟩
def JC (x:Ds):Option uV:=nz (ye (WQ (x.1,x.b,x.c,x.d)) fun r=>ye (W7 (x.1,x.b,x.c,x.d)) fun s=>WM s (ye (yx (x.e,0,1)) fun t=>yh t) fun u=>KA u (decide (x.F.z≤1680)) fun v=>zw v (ye (vJ (mH r x.E)) fun w=>yh w) (yh r))
def q23:=q0 23 JC yhv [q65,q66,mI,q68] Tryz.func23
abbrev gI:Type:=US
def cu (k0:Co→Option R) (a:gI→Option R) (x:gI):Option R:=nz (Z0 x.D 8 (ZE (Go.bits .and .i64 x.b 1) 1 (a (x.1,Go.bits .xor .i64 (Int.fdiv x.b (2^min (Int.toNat 1) (Go.IntKind.bits .i64))) 2197175160,x.c,zh x.D)) (a (x.1,Int.fdiv x.b (2^min (Int.toNat 1) (Go.IntKind.bits .i64)),x.c,zh x.D))) (k0 (x.1,x.b,x.c)))
def gJ k0:=iter (@cu R k0) FUEL
abbrev gK:Type:=Co
def gL (k0:Int→Option R) (a:gK→Option R) (x:gK):Option R:=nz (Z0 x.C x.1.z (z6 x.1 x.C (gJ (fun r=>a (r.1,r.b,zh r.C)) (x.1,Go.bits .xor .i64 x.b (fY (wP x.1 x.C)),x.C,0))) (k0 x.b))
def pG k0:=iter (@gL R k0) FUEL
def W8 (x:List yn):Option Int:=nz (pG (fun r=>yh (Go.bits .xor .i64 r 4294967295)) (x,4294967295,0))
def ydU:List QF:=[]
def PW (t:Elts qz5):St:=nd (stP qz5 [.v 1,.d 2,.v 3,.d 27] [] t)
def yb6:Gk gI:=fun κ=>nd (cu (zM κ (some 2) gC [.v 1,.d 2,.v 2,.d 28] []))
def PX (t:Elts gC):St:=nd (stP gC [.v 1,.d 2,.v 2,.d 28] [] t)
def yb7:Gk gK:=fun κ=>nd (gL (zM κ (some 0) [tI] [.d 3,.v 1,.d 29] []))
def ydV:Lp:=YT 3 (zR gC PX) @yb7 (YT 7 (zR qz5 PW) @yb6 ZM)
theorem yj6:LK ydU ydV 52 Tryz.f52 1:=Zm 7 PW @yb6
theorem yj7:LK ydU ydV 52 Tryz.f52 0:=Zm 3 PX @yb7
def q52:=qN 52 W8 yhw 2 ydU ydV Tryz.func52 ⟨yj7,yj6,trivial⟩
def JD (x:List yn):Option Xt:=nz (ye (kX x) fun r=>ye (ZD 60) fun s=>ye (Jd r) fun t=>ye (yd (Y9 t.2 2)) fun u=>ye (JC (mH s (u.1,t.1))) fun v=>ye (W8 t.1) fun w=>ye (yd (Y9 u.2 6)) fun p=>ZE p.1 0 (yh (mH v (1,u.1,t.1.z,5,1))) (ZE p.1 1 (yh (mH v (1,u.1,zh t.1.z,w,1))) (ZE p.1 2 (yh (mH v (1,zsb 1 u.1,t.1.z,w,1))) (ZE p.1 3 (yh (mH v (1,u.1,-1,w,1))) (yh (mH v (1,u.1,t.1.z,w,1)))))))
def q16:=q0 16 JD yhx [q23,q45,q46,q50,pd,q52] Tryz.func16
abbrev Qj:Type:=yg3
def Ke (k0:List yn→Option R) (a:Qj→Option R) (x:Qj):Option R:=nz (Z0 x.c x.e.z (z6 x.e x.c (zw ((zr x.e x.c).1==x.1) (z6 x.e x.c (a (x.1,(zr x.e x.c).2,zh x.c,oa x.D))) (a (x.1,x.b,zh x.c,oa x.D)))) (k0 x.b))
def fP k0:=iter (@Ke R k0) FUEL
def ZH (x:Xs):Option (List yn):=nz (ye (W7 (x.1,x.b,x.c,x.d)) fun r=>wM (!r) (ye (yx (x.E,0,jE x.1.z)) fun s=>yh (!s)) fun t=>zw t (yh ([]:List yn)) (z6 x.1 x.E (fP (fun u=>YS ([]:List yn) u 1 (yh (([]:List yn)++u))) (x.E,YK x.1 x.E,0,x.1,x.b,x.c,x.d))))
def yj8:List QF:=[q66,mI]
def PY (t:Elts Xz):St:=nd (stP Xz [.d 1,.v 1,.b 2,.d 2,.v 2,.d 42] [(2,[.v 4])] t)
def yb8:Gk Qj:=fun κ=>nd (Ke (zM κ (some 0) [yQ] [.d 5,.v 1,.d 43] []))
def yj9:Lp:=YT 5 (zR Xz PY) @yb8 ZM
theorem yja:LK yj8 yj9 53 Tryz.f53 0:=Zm 5 PY @yb8
def q53:=qN 53 ZH yhy 1 yj8 yj9 Tryz.func53 ⟨yja,trivial⟩
abbrev vW:Type:=y5V
def jZ (k0:y5W→Option R) (a:vW→Option R) (x:vW):Option R:=nz (KA (decide (x.1<24)) (decide (x.K.z<x.h)) fun r=>zw r (ye (Ze (x.g,x.1)) fun s=>ye (ZH (fX x.2 s)) fun t=>YS x.K t 1 (a (zh x.1,zT9 x.2 (x.K++t)))) (k0 x.F))
def vX k0:=iter (@jZ R k0) FUEL
def Zu (x:Xt):Option y5Y:=nz (vX (fun r=>dO (decide (r.c<0)) (decide (r.F.z<r.c)) fun s=>zw s (yh (([]:List yn),false)) (oc 0 r.c r.F.z (ye (W8 (aD r.F 0 r.c)) fun t=>zw (t !=r.d) (yh (([]:List yn),false)) (oc 0 r.c r.F.z (YS ([]:List yn) (aD r.F 0 r.c) 1 (yh (([]:List yn)++aD r.F 0 r.c,true))))))) (0,zG9 x ([]:List yn)))
def yjb:List QF:=[q52,q53,q54]
def PZ (t:Elts Dt):St:=nd (stP Dt [.d 2,.b 2,.b 3,.d 2,.o 10000000,.v 1,.d 47] [(2,[.v 4]),(3,[.v 5]),(10000000,[])] t)
def yb9:Gk vW:=fun κ=>nd (jZ (zM κ (some 0) y5X [.d 3,.b 3,.d 2,.o 10000000,.d 48] [(3,[.v 5]),(10000000,[])]))
def yjc:Lp:=YT 3 (zR Dt PZ) @yb9 ZM
theorem yjd:LK yjb yjc 17 Tryz.f17 0:=Zm 3 PZ @yb9
def q17:=qN 17 Zu yhz 1 yjb yjc Tryz.func17 ⟨yjd,trivial⟩
def kH (x:AX):Option Bool:=nz (ye (yx (x.1,1,60000)) fun r=>WM r (ye (yx (x.b,0,1)) fun s=>yh s) fun t=>WM t (ye (yx (x.c,0,1680)) fun u=>yh u) fun v=>WM v (ye (yx (x.d,0,4294967295)) fun w=>yh w) fun p=>WM p (ye (yx (x.E,1,60000)) fun q=>yh q) fun m=>yh m)
def yje:=q0 123 kH y8k [mI] Tryz.func123
def YC (x:TW):Option (List yn):=nz (YS ([]:List yn) x.1 1 (YS (([]:List yn)++x.1) ([Go.IntKind.wrap .u8 (Int.fdiv x.2 (2^min (Int.toNat 8) (Go.IntKind.bits .i64))),Go.IntKind.wrap .u8 x.2]:List yn) 1 (yh (([]:List yn)++x.1++([Go.IntKind.wrap .u8 (Int.fdiv x.2 (2^min (Int.toNat 8) (Go.IntKind.bits .i64))),Go.IntKind.wrap .u8 x.2]:List yn)))))
def SV:=q0 124 YC y8l [] Tryz.func124
def wB (x:TW):Option (List yn):=nz (YS ([]:List yn) x.1 1 (YS (([]:List yn)++x.1) ([Go.IntKind.wrap .u8 (Int.fdiv x.2 (2^min (Int.toNat 24) (Go.IntKind.bits .i64))),Go.IntKind.wrap .u8 (Int.fdiv x.2 (2^min (Int.toNat 16) (Go.IntKind.bits .i64))),Go.IntKind.wrap .u8 (Int.fdiv x.2 (2^min (Int.toNat 8) (Go.IntKind.bits .i64))),Go.IntKind.wrap .u8 x.2]:List yn) 1 (yh (([]:List yn)++x.1++([Go.IntKind.wrap .u8 (Int.fdiv x.2 (2^min (Int.toNat 24) (Go.IntKind.bits .i64))),Go.IntKind.wrap .u8 (Int.fdiv x.2 (2^min (Int.toNat 16) (Go.IntKind.bits .i64))),Go.IntKind.wrap .u8 (Int.fdiv x.2 (2^min (Int.toNat 8) (Go.IntKind.bits .i64))),Go.IntKind.wrap .u8 x.2]:List yn)))))
def yjf:=q0 125 wB y8m [] Tryz.func125
def WE (x:AX):Option (List yn):=nz (ye (kH x) fun r=>zw (!r) (yh ([]:List yn)) (ye (YC (([]:List yn),x.1)) fun s=>YS s ([Go.IntKind.wrap .u8 x.b]:List yn) 1 (ye (YC (s++([Go.IntKind.wrap .u8 x.b]:List yn),x.c)) fun t=>ye (wB (t,x.d)) fun u=>ye (YC (u,x.E)) fun v=>ye (W8 v) fun w=>ye (wB (v,w)) fun p=>yh p)))
def q58:=q0 58 WE yhA [q52,yje,SV,yjf] Tryz.func58
def wC (x:y5L):Option (List yn):=nz (nC ((ByteArray.size x.2:Nat):Int) 60 (YS ([]:List yn) x.1 1 (yh (([]:List yn)++x.1))) (ye (YC (x.1,((ByteArray.size x.2:Nat):Int))) fun r=>YS r (Z_ x.2) 1 (yh (r++Z_ x.2))))
def yjg:=q0 319 wC y8n [SV] Tryz.func319
def QZ (x:Bool):Option Int:=nz (zw x (yh 1) (yh 0))
def ymj:=q0 320 QZ y8o [] Tryz.func320
def Q_ (x:y5M):Option (List yn):=nz (YS ([]:List yn) x.1 1 (ye (wY x.2) fun r=>zw (!r) (yh (([]:List yn)++x.1)) (YS (([]:List yn)++x.1) ([Go.IntKind.wrap .u8 x.b,Go.IntKind.wrap .u8 x.c,Go.IntKind.wrap .u8 x.d,Go.IntKind.wrap .u8 x.e]:List yn) 1 (ye (YC (([]:List yn)++x.1++([Go.IntKind.wrap .u8 x.b,Go.IntKind.wrap .u8 x.c,Go.IntKind.wrap .u8 x.d,Go.IntKind.wrap .u8 x.e]:List yn),x.F)) fun s=>yh s))))
def ymk:=q0 344 Q_ y8p [SV,y3E] Tryz.func344
abbrev bP:Type:=yg4
def WF (k0:List yn→Option R) (a:bP→Option R) (x:bP):Option R:=nz (Z0 x.b x.1.z (z6 x.1 x.b (ye (Q_ (x.C,gD (yy x.1 x.b))) fun r=>a (x.1,zh x.b,r))) (k0 x.C))
def iW k0:=iter (@WF R k0) FUEL
def aa (x:yg5):Option (List yn):=nz (YS x.1 ([Go.IntKind.wrap .u8 x.2.z]:List yn) 1 (iW (fun r=>yh r) (x.2,0,x.1++([Go.IntKind.wrap .u8 x.2.z]:List yn))))
def yba:List QF:=[ymk]
def IW (t:Elts XA):St:=nd (stP XA [.o 10000000,.v 1,.d 3,.v 1,.d 19] [(10000000,[])] t)
def y1v:Gk bP:=fun κ=>nd (WF (zM κ (some 0) [yQ] [.o 10000000,.d 24] [(10000000,[])]))
def ybb:Lp:=YT 3 (zR XA IW) @y1v ZM
theorem ydW:LK yba ybb 321 Tryz.f321 0:=Zm 3 IW @y1v
def yml:=qN 321 aa y8q 1 yba ybb Tryz.func321 ⟨ydW,trivial⟩
abbrev Qk:Type:=Hq
def wD (k0:Dp→Option R) (a:Qk→Option R) (x:Qk):Option R:=nz (Z0 x.1 x.d.z (z6 x.d x.1 (z6 x.d x.1 (YS x.H ([Go.IntKind.wrap .u8 ((yT x.d x.1).1),Go.IntKind.wrap .u8 ((yT x.d x.1).2)]:List yn) 1 (a (zh x.1,Vn x.2 (x.H++([Go.IntKind.wrap .u8 ((yT x.d x.1).1),Go.IntKind.wrap .u8 ((yT x.d x.1).2)]:List yn))))))) (k0 x.2))
def Ql k0:=iter (@wD R k0) FUEL
abbrev qk:Type:=Hq
def JE (k0:Dp→Option R) (a:qk→Option R) (x:qk):Option R:=nz (Z0 x.1 x.f.z (z6 x.f x.1 (ye (wC (x.H,(yC x.f x.1).1)) fun r=>ye (QZ ((yC x.f x.1).D)) fun s=>YS r ([Go.IntKind.wrap .u8 ((yC x.f x.1).b),Go.IntKind.wrap .u8 ((yC x.f x.1).c),s]:List yn) 1 (a (zh x.1,Vn x.2 (r++([Go.IntKind.wrap .u8 ((yC x.f x.1).b),Go.IntKind.wrap .u8 ((yC x.f x.1).c),s]:List yn)))))) (k0 x.2))
def qm k0:=iter (@JE R k0) FUEL
abbrev qn:Type:=Hq
def JF (k0:Dp→Option R) (a:qn→Option R) (x:qn):Option R:=nz (Z0 x.1 x.e.z (z6 x.e x.1 (ye (YC (x.H,(yD x.e x.1).1)) fun r=>z6 x.e x.1 (ye (QZ ((yD x.e x.1).b)) fun s=>YS r ([s]:List yn) 1 (z6 x.e x.1 (ye (YC (r++([s]:List yn),(yD x.e x.1).C)) fun t=>a (zh x.1,Vn x.2 t)))))) (k0 x.2))
def qo k0:=iter (@JF R k0) FUEL
abbrev qp:Type:=yg6
def JG (k0:Hq→Option R) (a:qp→Option R) (x:qp):Option R:=nz (z6 x.d x.1 (Z0 x.b ((yt x.d x.1).z) (z6 x.d x.1 (z6 (yt x.d x.1) x.b (ye (aa (x.I,yK (yt x.d x.1) x.b)) fun r=>a (x.1,zh x.b,Vn x.C r)))) (k0 (x.1,x.C))))
def qq k0:=iter (@JG R k0) FUEL
abbrev qs:Type:=Hq
def JH (k0:List yn→Option R) (a:qs→Option R) (x:qs):Option R:=nz (Z0 x.1 x.c.z (z6 x.b x.1 (ye (YC (x.H,Y4 x.b x.1)) fun r=>z6 x.c x.1 (YS r ([Go.IntKind.wrap .u8 ((yt x.c x.1).z)]:List yn) 1 (qq (fun s=>a (zh s.1,Pf s.2)) (x.1,0,Vn x.2 (r++([Go.IntKind.wrap .u8 ((yt x.c x.1).z)]:List yn))))))) (k0 x.H))
def qt k0:=iter (@JH R k0) FUEL
def qu (x:f6):Option (List yn):=nz (ye (yZ x) fun r=>zw (!r) (yh ([]:List yn)) (ye (YC (([]:List yn),x.F)) fun s=>YS s ([Go.IntKind.wrap .u8 x.c.z]:List yn) 1 (Ql (fun t=>YS t.G ([Go.IntKind.wrap .u8 t.e.z]:List yn) 1 (qm (fun u=>qo (fun v=>YS v.G ([Go.IntKind.wrap .u8 v.b.z]:List yn) 1 (qt (fun w=>yh w) (0,Vn v (v.G++([Go.IntKind.wrap .u8 v.b.z]:List yn))))) (0,Pf u)) (0,Vn t (t.G++([Go.IntKind.wrap .u8 t.e.z]:List yn))))) (0,aN x (s++([Go.IntKind.wrap .u8 x.c.z]:List yn))))))
def DF:List QF:=[q85,SV,yjg,ymj,yml]
def IX (t:Elts fA):St:=nd (stP fA [.d 1,.b 1,.d 1,.o 10000000,.v 1,.d 169] [(1,[.v 6]),(10000000,[])] t)
def y1w:Gk Qk:=fun κ=>nd (wD (zM κ (some 0) Dq [.d 1,.b 1,.d 1,.o 10000000,.d 170] [(1,[.v 6]),(10000000,[])]))
def DG (t:Elts fA):St:=nd (stP fA [.d 1,.b 1,.d 1,.o 10000000,.d 1,.v 1,.d 168] [(1,[.v 6]),(10000000,[])] t)
def P_:Gk qk:=fun κ=>nd (JE (zM κ (some 2) Dq [.d 1,.b 1,.d 1,.o 10000000,.d 170] [(1,[.v 6]),(10000000,[])]))
def DH (t:Elts fA):St:=nd (stP fA [.d 1,.b 1,.d 1,.o 10000000,.d 3,.v 1,.d 166] [(1,[.v 6]),(10000000,[])] t)
def R0:Gk qn:=fun κ=>nd (JF (zM κ (some 4) Dq [.d 1,.b 1,.d 1,.o 10000000,.d 170] [(1,[.v 6]),(10000000,[])]))
def DI (t:Elts XC):St:=nd (stP XC [.d 1,.b 1,.d 1,.o 10000000,.d 4,.v 2,.d 164] [(1,[.v 6]),(10000000,[])] t)
def R1:Gk qp:=fun κ=>nd (JG (zM κ (some 8) fA [.d 1,.b 1,.d 1,.o 10000000,.d 4,.v 1,.d 165] [(1,[.v 6]),(10000000,[])]))
def DJ (t:Elts fA):St:=nd (stP fA [.d 1,.b 1,.d 1,.o 10000000,.d 4,.v 1,.d 165] [(1,[.v 6]),(10000000,[])] t)
def R2:Gk qs:=fun κ=>nd (JH (zM κ (some 6) [yQ] [.d 3,.o 10000000,.d 170] [(10000000,[])]))
def DK:Lp:=YT 21 (zR fA DJ) @R2 (YT 25 (zR XC DI) @R1 (YT 16 (zR fA DH) @R0 (YT 11 (zR fA DG) @P_ (YT 6 (zR fA IX) @y1w ZM))))
theorem ydX:LK DF DK 276 Tryz.f276 0:=Zm 6 IX @y1w
theorem y4t:LK DF DK 276 Tryz.f276 1:=Zm 11 DG @P_
theorem y4u:LK DF DK 276 Tryz.f276 2:=Zm 16 DH @R0
theorem y4v:LK DF DK 276 Tryz.f276 4:=Zm 25 DI @R1
theorem y4w:LK DF DK 276 Tryz.f276 3:=Zm 21 DJ @R2
def ymm:=qN 276 qu y8r 5 DF DK Tryz.func276 ⟨ydX,y4t,y4u,y4w,y4v,trivial⟩
def JI (x:dZ):Option yg7:=nz (ZE x.c 0 (yh (false,x.1,x.b,-1,true,zF9 x.E)) (nC x.c 0 (yh (true,x.1,x.b,jE x.c,ycl x.D)) (yh (true,x))))
def R3:=q0 100004 JI Hv [] Tryz.func221
abbrev W9:Type:=yg8
def Ye (k0:y62→Option R) (a:W9→Option R) (x:W9):Option R:=nz (Z0 x.1 x.N.z (z6 x.N x.1 (z6 x.N x.1 (z6 x.m ((zr x.N x.1).1) (a (zh x.1,SM x.2 (lh x.m ((zr x.N x.1).1) ((zr x.N x.1).2),x.N)))))) (k0 x.2))
def Wa k0:=iter (@Ye R k0) FUEL
def Yb (x:dZ):Option dZ:=nz (zw x.d (yh x) (ye (JI x) fun r=>zw (!r.1) (yh r.2) (Wa (fun s=>yh (s.l,([]:List yw),s.1,s.b,s.c,s.d,s.e,s.f,s.g,s.h,s.i,s.j,s.k)) (0,SN r.D (r.b,r.c)))))
def IY:List QF:=[R3]
def t_ (t:Elts XD):St:=nd (stP XD [.b 900,.d 1,.v 1,.d 43] [(900,[.o 10000000,.o 10000001,.v 11]),(10000000,[]),(10000001,[])] t)
def DL:Gk W9:=fun κ=>nd (Ye (zM κ (some 0) y63 [.b 900,.d 45] [(900,[.o 10000000,.o 10000001,.v 11]),(10000000,[]),(10000001,[])]))
def IZ:Lp:=YT 2 (zR XD t_) @DL ZM
theorem SW:LK IY IZ 100003 Tryz.f210 0:=Zm 2 t_ @DL
def R4:=qN 100003 Yb Hw 1 IY IZ Tryz.func210 ⟨SW,trivial⟩
def zH (x:y64):Option dZ:=nz (wM x.d (ye (yx (x.n,0,jE x.1.z)) fun r=>yh (!r)) fun s=>dO s (decide (x.O.z>80)) fun t=>dO t (decide (x.b.z≥60)) fun u=>zw u (yh (x.1,x.b,x.c,x.d,x.e,x.f,x.g,x.h,x.i,x.j,x.k,x.l,x.m)) (ye (JI (x.1,x.b,x.c,x.d,x.e,x.f,x.g,x.h,x.i,x.j,x.k,x.l,x.m)) fun v=>zw (!v.1) (yh v.2) (YS ([]:List yn) x.O 1 (YS v.c ([(x.n,([]:List yn)++x.O)]:List yw) 32 (yh (v.b,v.c++([(x.n,([]:List yn)++x.O)]:List yw),XM v.D))))))
def Fc:=q0 100006 zH Hx [mI,R3] Tryz.func140
abbrev wE:Type:=yg9
def ZR (k0:y62→Option R) (a:wE→Option R) (x:wE):Option R:=nz (Z0 (dP x.c 70) x.b.z (nC (dP (zh x.c) 70) x.b.z (ye (Ze (x.1,x.c)) fun r=>oc (dP x.c 70) x.b.z x.b.z (ye (zH (x.o,x.P,SM x.D (r,aD x.b (dP x.c 70) x.b.z))) fun s=>a (x.1,x.b,zh x.c,SN s.C (s.1,s.b)))) (ye (Ze (x.1,x.c)) fun t=>oc (dP x.c 70) (dP (zh x.c) 70) x.b.z (ye (zH (x.o,x.P,SM x.D (t,aD x.b (dP x.c 70) (dP (zh x.c) 70)))) fun u=>a (x.1,x.b,zh x.c,SN u.C (u.1,u.b))))) (k0 x.D))
def Vd k0:=iter (@ZR R k0) FUEL
def J4 (x:y64):Option dZ:=nz (Vd (fun r=>yh (r.l,r.M,r.1,r.b,r.c,r.d,r.e,r.f,r.g,r.h,r.i,r.j,r.k)) (x.n,x.O,0,SM x.C (x.1,x.b)))
def I_:List QF:=[q54,Fc]
def u0 (t:Elts XE):St:=nd (stP XE [.b 900,.v 2,.d 3,.v 1,.d 27] [(900,[.o 10000000,.o 10000001,.v 11]),(10000000,[]),(10000001,[])] t)
def DM:Gk wE:=fun κ=>nd (ZR (zM κ (some 0) y63 [.b 900,.d 33] [(900,[.o 10000000,.o 10000001,.v 11]),(10000000,[]),(10000001,[])]))
def L0:Lp:=YT 1 (zR XE u0) @DM ZM
theorem SX:LK I_ L0 100005 Tryz.f68 0:=Zm 1 u0 @DM
def y4x:=qN 100005 J4 Hy 1 I_ L0 Tryz.func68 ⟨SX,trivial⟩
def jg (x:dZ):Option dZ:=nz (ye (qu (x.e,x.f,x.g,x.h,x.i,x.j)) fun r=>ye (W8 r) fun s=>ye (Yb x) fun t=>ye (J4 (ul t (Int.tmod (zh x.k) 2,r))) fun u=>ye (Yb u) fun v=>ye (WE (zh x.k,Int.tmod (zh x.k) 2,r.z,s,x.M)) fun w=>ye (zH (ul v (Int.tmod (zh x.k) 2,w))) fun p=>ye (Yb p) fun q=>zw (!q.d) (yh (yhP q (zh q.k,q.M,q.M))) (yh q))
def yjh:=q0 213 jg y8s [q52,q58,ymm,R4,y4x,Fc] Tryz.func213
def kI (x:dZ):Option dZ:=nz (ye (WQ (x.1,x.b,x.c,x.d)) fun r=>ye (yF (x.e,x.f,x.g,x.h,x.i,x.j)) fun s=>yh (mH r (aN s x.K)))
def yji:=q0 272 kI y8t [q65,TX] Tryz.func272
def wF (x:dZ):Option Bool:=nz (ye (W7 (x.1,x.b,x.c,x.d)) fun r=>KA r (x.1.z==60) fun s=>WM s (ye (yZ (x.e,x.f,x.g,x.h,x.i,x.j)) fun t=>yh t) fun u=>WM u (ye (yx (x.l,1,50000)) fun v=>yh v) fun w=>WM w (ye (yx (x.M,x.l,JP x.l 6)) fun p=>yh p) fun q=>WM q (ye (yx (x.M,1,50000)) fun m=>yh m) fun n=>yh n)
def yjj:=q0 273 wF y8u [q66,mI,q85] Tryz.func273
def ZS (x:dZ):Option dZ:=nz (ye (kI x) fun r=>ye (wF x) fun s=>WM s (ye (yx (x.k,0,49999)) fun t=>yh t) fun u=>KA u (!x.d) fun v=>zw v (ye (jg r) fun w=>yh w) (yh r))
def yjk:=q0 211 ZS y8v [mI,yjh,yji,yjj] Tryz.func211
def ab (x:Unit):Option dZ:=nz (ye (ZD 60) fun r=>ye (VL ()) fun s=>ye (ZS (mH r (aN s (0,1,1)))) fun t=>yh t)
def ymn:=q0 121 ab y8w [q46,yjk,yih] Tryz.func121
def qv (x:dZ):Option Bool:=nz (ye (wF x) fun r=>WM r (ye (yx (x.k,1,50000)) fun s=>yh s) fun t=>yh t)
def ymo:=q0 277 qv y8x [mI,yjj] Tryz.func277
def WR (x:Int):Option Int:=nz (Z0 x 0 (yh (-1)) (yh (JP 2 (Int.tmod x 6))))
def ymp:=q0 278 WR y8y [] Tryz.func278
def cv (x:y65):Option Bool:=nz (ye (yx (x.1,1,60000)) fun r=>WM r (ye (kq x.2) fun s=>yh s) fun t=>yh t)
def ymq:=q0 322 cv y8z [mI,q84] Tryz.func322
def cw (x:yga):Option (List yn):=nz (YS ([]:List yn) x.1 1 (ye (kq x.2) fun r=>zw (!r) (yh (([]:List yn)++x.1)) (YS (([]:List yn)++x.1) ([Go.IntKind.wrap .u8 x.b]:List yn) 1 (ye (wC (([]:List yn)++x.1++([Go.IntKind.wrap .u8 x.b]:List yn),x.c)) fun s=>ye (wC (s,x.d)) fun t=>ye (YC (t,x.e)) fun u=>ye (YC (u,x.F)) fun v=>yh v))))
def ymr:=q0 323 cw y8A [q84,SV,yjg] Tryz.func323
def WS (x:y65):Option (List yn):=nz (ye (cv x) fun r=>zw (!r) (yh ([]:List yn)) (ye (YC (([]:List yn),x.1)) fun s=>ye (cw (s,x.2)) fun t=>ye (W8 t) fun u=>ye (wB (t,u)) fun v=>yh v))
def yms:=q0 279 WS y8B [q52,SV,yjf,ymq,ymr] Tryz.func279
def eF (x:ygb):Option ygc:=nz (ye (kI (x.1,x.b,x.c,x.d,x.e,x.f,x.g,x.h,x.i,x.j,x.k,x.l,x.m)) fun r=>ye (qv (x.1,x.b,x.c,x.d,x.e,x.f,x.g,x.h,x.i,x.j,x.k,x.l,x.m)) fun s=>dO (!s) x.d fun t=>wM t (ye (kq x.N) fun u=>yh (!u)) fun v=>zw v (yh (ul r 1)) (ye (W0 (Vn x.E x.N)) fun w=>Mg w.G 0 (yh (ul r w.G)) (zw (x.m==JP x.l 6) (ye (ZS r) fun p=>dO p.d (decide (x.m≥49980)) fun q=>dO q (p.M==JP p.l 6) fun m=>zw m (yh (ul p 6)) (ye (WR p.M) fun n=>ye (WS (p.M,x.N)) fun o=>ye (zH (ul p (n,o))) fun e=>zw e.d (yh (ul e 6)) (yh (fX e (Vn w (e.k,e.l,zh e.M,0)))))) (dO r.d (decide (x.m≥49980)) fun f=>dO f (r.M==JP r.l 6) fun g=>zw g (yh (ul r 6)) (ye (WR r.M) fun h=>ye (WS (r.M,x.N)) fun i=>ye (zH (ul r (h,i))) fun j=>zw j.d (yh (ul j 6)) (yh (fX j (Vn w (j.k,j.l,zh j.M,0)))))))))
def ymt:=q0 214 eF y8C [q28,q84,yjk,yji,ymo,ymp,yms,Fc] Tryz.func214
def qw (x:y67):Option y67:=nz (ye (yd (wX x 8)) fun r=>ZE r.1 0 (ye (Yb x.D) fun s=>yh (Y9 r.2 s)) (ZE r.1 1 (zw (!x.g) (ye (jg x.D) fun t=>yh (Y9 r.2 t)) (yh (Y9 r.2 x.D))) (ye (jV r.2) fun u=>ye (eF (ul x.D (u.1,u.b,u.c,u.d,u.e))) fun v=>yh (Y9 u.F (v.1,v.b,v.c,v.d,v.e,v.f,v.g,v.h,v.i,v.j,v.k,v.l,v.m)))))
def ymu:=q0 122 qw y8D [pd,yie,yjh,ymt,R4] Tryz.func122
abbrev Kf:Type:=ygd
def Kg (k0:yge→Option R) (a:Kf→Option R) (x:Kf):Option R:=nz (nC x.1 0 (ye (qw (wX x.2 (x.v,x.W,x.k,x.l,x.m,x.n,x.o,x.p,x.q,x.r,x.s,x.t,x.u))) fun r=>a (jE x.1,wX r (Vn x.E (SN r.F (r.d,r.e))))) (k0 x.2))
def fQ k0:=iter (@Kg R k0) FUEL
def qx (x:US):Option ygg:=nz (ye (ab ()) fun r=>ye (yd (wX x (zh x.D))) fun s=>fQ (fun t=>yh (t.u,t.V,SM t.J (t.1,t.b,t.c))) (mH s (0,false,0,0,0,0,SN r.C (r.1,r.b))))
def yjl:List QF:=[pd,ymn,ymu]
def R5 (t:Elts XF):St:=nd (stP XF [.b 900,.d 3,.b 4,.b 5,.v 1,.d 12] [(900,[.v 3]),(4,[.s,.s,.v 2,.s,.s,.s,.s,.s,.v 4]),(5,[.o 10000000,.o 10000001,.v 11]),(10000000,[]),(10000001,[])] t)
def ybc:Gk Kf:=fun κ=>nd (Kg (zM κ (some 0) ygf [.b 900,.d 3,.b 4,.b 5,.d 13] [(900,[.v 3]),(4,[.s,.s,.v 2,.s,.s,.s,.s,.s,.v 4]),(5,[.o 10000000,.o 10000001,.v 11]),(10000000,[]),(10000001,[])]))
def yjm:Lp:=YT 3 (zR XF R5) @ybc ZM
theorem yjn:LK yjl yjm 55 Tryz.f55 0:=Zm 3 R5 @ybc
def q55:=qN 55 qx yhB 1 yjl yjm Tryz.func55 ⟨yjn,trivial⟩
abbrev Kh:Type:=ygh
def Ki (k0:OA→Option R) (a:Kh→Option R) (x:Kh):Option R:=nz (KA (decide (x.b<x.H.z)) (decide (x.b<30)) fun r=>zw r (if Go.IntKind.wrap .u64 x.b<0 then none else ZE (Go.bits .and .i64 (Int.fdiv x.1 (2^min ((Go.IntKind.wrap .u64 x.b).toNat) (Go.IntKind.bits .i64))) 1) 1 (z6 x.H x.b (z6 x.H x.b (z6 x.g ((zr x.H x.b).1) (a (x.1,zh x.b,fX x.C (lh x.g ((zr x.H x.b).1) ((zr x.H x.b).2),x.H)))))) (a (x.1,zh x.b,Dx x.C))) (k0 x.C))
def Kj k0:=iter (@Ki R k0) FUEL
def qy (x:Xs):Option uV:=nz (ye (WQ (x.1,x.b,x.c,x.d)) fun r=>ye (W7 (x.1,x.b,x.c,x.d)) fun s=>zw (!s) (yh r) (ye (yx (x.E,0,1073741823)) fun t=>zw (!t) (Kj (fun u=>yh (u.e,([]:List yw),-1,false)) (0,0,0,false,r.c,r.D,r.1,r.b)) (Kj (fun v=>yh (v.e,([]:List yw),-1,false)) (x.E,0,0,false,r.c,r.D,r.1,r.b))))
def yjo:List QF:=[q65,q66,mI]
def R6 (t:Elts XG):St:=nd (stP XG [.d 1,.v 1,.d 2,.b 4,.b 5,.v 1,.d 46] [(4,[.s,.s,.v 2]),(5,[.o 10000000,.o 10000001,.v 2]),(10000000,[]),(10000001,[])] t)
def ybd:Gk Kh:=fun κ=>nd (Ki (zM κ (some 0) OB [.d 4,.b 4,.b 5,.d 47] [(4,[.s,.s,.v 2]),(5,[.o 10000000,.o 10000001,.v 2]),(10000000,[]),(10000001,[])]))
def yjp:Lp:=YT 7 (zR XG R6) @ybd ZM
theorem yjq:LK yjo yjp 57 Tryz.f57 0:=Zm 7 R6 @ybd
def q57:=qN 57 qy yhC 1 yjo yjp Tryz.func57 ⟨yjq,trivial⟩
def bQ (x:Co):Option Od:=nz (ye (yd (Y9 x 9)) fun r=>ye (yd (Y9 r.2 2)) fun s=>ye (yd (Y9 s.2 200)) fun t=>ye (yE (Y9 t.2 ([0,1,4294967295]:List yf))) fun u=>ye (yd (Y9 u.2 50)) fun v=>yh (JP 1 r.1,s.1,t.1,u.1,JP 1 v.1,kl v.2))
def q59:=q0 59 bQ yhD [SO,pd] Tryz.func59
def kb (x:List yn):Option uV:=nz (ye (kX x) fun r=>ye (KH (x,10)) fun s=>ye (qx (Y9 r s)) fun t=>ye (yd (Y9 t.N 1024)) fun u=>ye (qy (fX t u.1)) fun v=>ye (yd (Y9 u.2 6)) fun w=>ZE w.1 0 (ye (yd (Y9 w.2 2)) fun p=>ye (bQ p.2) fun q=>ye (WE (q.1,q.b,q.c,q.d,q.e)) fun m=>z6 v.1 p.1 (yh (lh v.1 p.1 m,kl v.2))) (ZE w.1 1 (ye (yd (Y9 w.2 40)) fun n=>ye (wA (Y9 n.2 3)) fun o=>z6 v.1 (JP 8 n.1) (yh (lh v.1 (JP 8 n.1) o.1,kl v.2))) (ZE w.1 2 (ye (qi w.2) fun e=>yh (e.1,e.b,e.c,e.d)) (yh v))))
def q18:=q0 18 kb yhE [q45,q48,pd,q55,q56,q57,q58,q59,q60] Tryz.func18
def ay (x:TW):Option y68:=nz (dO (decide (x.2<0)) (decide (x.2>zsb x.1.z 2)) fun r=>zw r (yh (0,0,false)) (z6 x.1 x.2 (z6 x.1 (zh x.2) (yh (Go.bits .or .i64 (dP (fY (wP x.1 x.2)) (2^min (Int.toNat 8) (Go.IntKind.bits .i64))) (fY (wP x.1 (zh x.2))),JP x.2 2,true)))))
def yjr:=q0 215 ay y8E [] Tryz.func215
def yz (x:ar):Option pc:=nz (ye (ay (x.1,x.b)) fun r=>dO x.C (!r.C) fun s=>zw s (yh (0,x.1,x.b,true)) (yh (r.1,x.1,r.b,x.C)))
def y4y:=q0 126 yz y8F [yjr] Tryz.func126
def yq (x:ar):Option pc:=nz (dO x.C (decide (x.b<0)) fun r=>dO r (decide (x.b≥x.1.z)) fun s=>zw s (yh (0,x.1,x.b,true)) (z6 x.1 (jE (zh x.b)) (yh (fY (wP x.1 (jE (zh x.b))),x.1,zh x.b,x.C))))
def y1x:=q0 127 yq y8G [] Tryz.func127
def zY (x:ar):Option pc:=nz (ye (yz x) fun r=>ye (yz r.2) fun s=>yh (Go.bits .or .i64 (dP r.1 (2^min (Int.toNat 16) (Go.IntKind.bits .i64))) s.1,kl s.2))
def ymv:=q0 128 zY y8H [y4y] Tryz.func128
def j_ (x:ar):Option XH:=nz (KA (!x.C) (x.b==x.1.z) fun r=>yh (r,x))
def yjs:=q0 129 j_ y8I [] Tryz.func129
def qz (x:AX):Option Bool:=nz (ye (yI (x.1,1,60000)) fun r=>WM r (ye (yI (x.b,0,1)) fun s=>yh s) fun t=>WM t (ye (yI (x.c,0,1680)) fun u=>yh u) fun v=>WM v (ye (yI (x.d,0,4294967295)) fun w=>yh w) fun p=>WM p (ye (yI (x.E,1,60000)) fun q=>yh q) fun m=>yh m)
def ymw:=q0 130 qz y8J [Hz] Tryz.func130
def jh (x:List yn):Option Hn:=nz (ye (yz (x,0,false)) fun r=>ye (yq r.2) fun s=>ye (yz s.2) fun t=>ye (zY t.2) fun u=>ye (yz u.2) fun v=>ye (zY v.2) fun w=>ye (j_ w.2) fun p=>wM (!p.1) (ye (qz (r.1,s.1,t.1,u.1,v.1)) fun q=>yh (!q)) fun m=>wM m (oc 0 v.c x.z (ye (Qe (aD x 0 v.c)) fun n=>yh (w.1 !=n))) fun o=>zw o (yh (0,0,0,0,0,false)) (yh (r.1,s.1,t.1,u.1,v.1,true)))
def q61:=q0 61 jh yhF [q11,y4y,y1x,ymv,yjs,ymw] Tryz.func61
def kJ (x:TW):Option y69:=nz (ye (ay x) fun r=>dO (!r.C) (decide (r.1>60)) fun s=>dO s (decide (r.1>zsb x.1.z r.b)) fun t=>zw t (yh ({data:= #[]},0,false)) (oc r.b (JP r.b r.1) x.1.z (yh (textOf (aD x.1 r.b (JP r.b r.1)),JP r.b r.1,true))))
def ymx:=q0 280 kJ y8K [yjr] Tryz.func280
def YD (x:ar):Option ygi:=nz (ye (kJ (x.1,x.b)) fun r=>dO x.C (!r.C) fun s=>zw s (yh ({data:= #[]},x.1,x.b,true)) (yh (r.1,x.1,r.b,x.C)))
def ymy:=q0 216 YD y8L [ymx] Tryz.func216
def zU (x:ar):Option XH:=nz (ye (yq x) fun r=>nC r.1 1 (yh (r.1==1,r.b,r.c,true)) (yh (r.1==1,kl r.2)))
def ymz:=q0 217 zU y8M [y1x] Tryz.func217
def za (x:ar):Option ygj:=nz (ye (yq x) fun r=>ye (yq r.2) fun s=>ye (yq s.2) fun t=>ye (yq t.2) fun u=>ye (yz u.2) fun v=>wM v.D (ye (K9 (r.1,s.1,t.1,u.1,v.1)) fun w=>yh (!w)) fun p=>zw p (yh (0,0,0,0,0,v.b,v.c,true)) (yh (r.1,s.1,t.1,u.1,v)))
def ymA:=q0 281 za y8N [yds,y4y,y1x] Tryz.func281
abbrev kK:Type:=OK ⊕ OM
def zp (k0:ygk→Option R) (k1:ygm→Option R) (a:kK→Option R):kK→Option R
 | .inl x=>nz (Z0 x.d x.c (ye (za (x.e,x.f,x.g)) fun r=>YS x.H ([(r.1,r.b,r.c,r.d,r.e)]:List y7) 40 (a (Sum.inl (wX x (zh x.d,Y9 r.F (x.H++([(r.1,r.b,r.c,r.d,r.e)]:List y7))))))) (k0 (x.1,x.b,x.E)))
 | .inr x=>nz (Z0 x.d x.c (ye (za (x.e,x.f,x.g)) fun r=>YS x.h ([(r.1,r.b,r.c,r.d,r.e)]:List y7) 40 (a (Sum.inr (wX x (zh x.d,Y9 r.F (x.h++([(r.1,r.b,r.c,r.d,r.e)]:List y7),x.I)))))) (k1 (x.1,x.b,x.E)))
def yV k0 k1:=iter (@zp R k0 k1) FUEL
abbrev JJ:Type:=OO ⊕ OQ
def zI (k0:ar→Option R) (k1:y6a→Option R) (a:JJ→Option R):JJ→Option R
 | .inl x=>nz (Z0 x.b x.1 (ye (yq x.C) fun r=>yV (fun s=>if List.length ([s.F]:List yc)*24<140737488355328 then a (Sum.inr (s.1,zh s.b,wX s.C ([s.F]:List yc))) else none) (fun t=>YS t.G ([t.f]:List yc) 24 (a (Sum.inr (t.1,zh t.b,wX t.C (t.G++([t.f]:List yc)))))) (Sum.inl (x.1,x.b,r.1,0,Y9 r.2 ([]:List y7)))) (k0 x.C))
 | .inr x=>nz (Z0 x.b x.1 (ye (yq (x.c,x.d,x.e)) fun r=>yV (fun s=>if List.length ([s.F]:List yc)*24<140737488355328 then a (Sum.inr (s.1,zh s.b,wX s.C ([s.F]:List yc))) else none) (fun t=>YS t.G ([t.f]:List yc) 24 (a (Sum.inr (t.1,zh t.b,wX t.C (t.G++([t.f]:List yc)))))) (Sum.inr (x.1,x.b,r.1,0,Y9 r.2 (([]:List y7),x.F)))) (k1 x.C))
def ZI k0 k1:=iter (@zI R k0 k1) FUEL
def Yf (x:ar):Option y6c:=nz (ye (yq x) fun r=>ZI (fun s=>yh (([]:List yc),kl s)) (fun t=>yh (t.D,t.1,t.b,t.c)) (Sum.inl (r.1,0,kl r.2)))
def pH:List QF:=[y1x,ymA]
def pI (t:Elts OL):St:=nd (stP OL [.b 900,.d 1,.b 2,.b 3,.d 1,.o 10000000,.d 5,.v 2,.d 4,.v 2,.d 16] [(900,[.v 3]),(2,[.s]),(3,[.s]),(10000000,[])] t)
theorem y1y: ∀ s t,zR OL pI s=some t→pI t=s:=Y3 fun t=>by kernel_rfl
def pJ (t:Elts ON):St:=nd (stP ON [.b 900,.d 1,.b 2,.b 3,.d 1,.o 10000000,.d 5,.v 2,.d 4,.v 2,.d 16] [(900,[.v 3]),(2,[.s]),(3,[.o 10000001]),(10000000,[]),(10000001,[])] t)
theorem y1z: ∀ s t,zR ON pJ s=some t→pJ t=s:=Y3 fun t=>by kernel_rfl
def pM:(OK ⊕ OM)→St:=Sum.elim pI pJ
def Ba (s:St):Option (OK ⊕ OM):=((zR OL pI s).map Sum.inl).or (((zR ON pJ) s).map Sum.inr)
theorem y1A: ∀ s t,Ba s=some t→pM t=s:=Kz y1y y1z
def Fe:Gk kK:=fun κ=>nd (zp (zM κ (some 2) ygl [.b 900,.d 1,.b 2,.b 3,.d 1,.o 10000000,.d 5,.v 2,.d 22] [(900,[.v 3]),(2,[.s]),(3,[.s]),(10000000,[])]) (zM κ (some 2) ygn [.b 900,.d 1,.b 2,.b 3,.d 1,.o 10000000,.d 5,.v 2,.d 22] [(900,[.v 3]),(2,[.s]),(3,[.o 10000001]),(10000000,[]),(10000001,[])]))
def pO (t:Elts OP):St:=nd (stP OP [.b 900,.d 1,.b 2,.b 3,.d 7,.v 2,.d 22] [(900,[.v 3]),(2,[.s]),(3,[.s])] t)
theorem y1B: ∀ s t,zR OP pO s=some t→pO t=s:=Y3 fun t=>by kernel_rfl
def pQ (t:Elts OR):St:=nd (stP OR [.b 900,.d 1,.b 2,.b 3,.d 7,.v 2,.d 22] [(900,[.v 3]),(2,[.s]),(3,[.o 10000000]),(10000000,[])] t)
theorem y1C: ∀ s t,zR OR pQ s=some t→pQ t=s:=Y3 fun t=>by kernel_rfl
def pR:(OO ⊕ OQ)→St:=Sum.elim pO pQ
def Bb (s:St):Option (OO ⊕ OQ):=((zR OP pO s).map Sum.inl).or (((zR OR pQ) s).map Sum.inr)
theorem y1D: ∀ s t,Bb s=some t→pR t=s:=Kz y1B y1C
def Ff:Gk JJ:=fun κ=>nd (zI (zM κ (some 0) au [.b 900,.d 1,.b 2,.b 3,.d 31] [(900,[.v 3]),(2,[.s]),(3,[.s])]) (zM κ (some 0) y6b [.b 900,.d 1,.b 2,.b 3,.d 31] [(900,[.v 3]),(2,[.s]),(3,[.o 10000000]),(10000000,[])]))
def pU:Lp:=YT 4 Bb @Ff (YT 8 Ba @Fe ZM)
theorem y1E:LF pH pU 218 8 Tryz.f218 1 pM @Fe fun v:OK=> .inl v:=fun R κ again v=>by kernel_rfl
theorem y1F:LF pH pU 218 8 Tryz.f218 1 pM @Fe fun v:OM=> .inr v:=fun R κ again v=>by kernel_rfl
theorem ydY:LF pH pU 218 8 Tryz.f218 1 pM @Fe fun t=>t:=(LC.sum y1E y1F)
theorem ydZ:LK pH pU 218 Tryz.f218 1:=Gc (u:=Ba) y1A ydY
theorem y1G:LF pH pU 218 4 Tryz.f218 0 pR @Ff fun v:OO=> .inl v:=fun R κ again v=>by kernel_rfl
theorem y1H:LF pH pU 218 4 Tryz.f218 0 pR @Ff fun v:OQ=> .inr v:=fun R κ again v=>by kernel_rfl
theorem yd_:LF pH pU 218 4 Tryz.f218 0 pR @Ff fun t=>t:=(LC.sum y1G y1H)
theorem ye0:LK pH pU 218 Tryz.f218 0:=Gc (u:=Bb) y1D yd_
def ymB:=qN 218 Yf y8O 2 pH pU Tryz.func218 ⟨ye0,ydZ,trivial⟩
abbrev kL:Type:=Dv
def YE (k0:OS→Option R) (a:kL→Option R) (x:kL):Option R:=nz (Z0 x.b x.1 (ye (yq (x.c,x.d,x.e)) fun r=>ye (yq r.2) fun s=>YS x.i ([(r.1,s.1)]:List yb) 16 (a (x.1,zh x.b,Y9 s.2 (wX x.F (x.i++([(r.1,s.1)]:List yb),x.j,x.K))))) (k0 x.C))
def Z6 k0:=iter (@YE R k0) FUEL
abbrev W_:Type:=Dv
def Yu (k0:OS→Option R) (a:W_→Option R) (x:W_):Option R:=nz (Z0 x.b x.1 (ye (YD (x.c,x.d,x.e)) fun r=>ye (yq r.2) fun s=>ye (yq s.2) fun t=>ye (zU t.2) fun u=>YS x.K ([(r.1,s.1,t.1,u.1)]:List yj) 40 (a (x.1,zh x.b,Y9 u.2 (Pb x.F (x.K++([(r.1,s.1,t.1,u.1)]:List yj)))))) (k0 x.C))
def YU k0:=iter (@Yu R k0) FUEL
abbrev k6:Type:=ygo
def Yv (k0:OS→Option R) (a:k6→Option R) (x:k6):Option R:=nz (Z0 x.1 24 (ye (yz (x.b,x.c,x.d)) fun r=>ye (zU r.2) fun s=>ye (yz s.2) fun t=>YS x.i ([(r.1,s.1,t.1)]:List ya) 24 (a (zh x.1,Y9 t.2 (fX x.E (x.i++([(r.1,s.1,t.1)]:List ya),x.J))))) (k0 x.2))
def YV k0:=iter (@Yv R k0) FUEL
abbrev J5:Type:=Dv ⊕ OU
def zu (k0:OS→Option R) (k1:ygp→Option R) (a:J5→Option R):J5→Option R
 | .inl x=>nz (Z0 x.b x.1 (ye (yz (x.c,x.d,x.e)) fun r=>ye (Yf r.2) fun s=>YS x.h ([r.1]:List yf) 8 (if List.length ([s.1]:List y6)*24<140737488355328 then a (Sum.inr (x.1,zh x.b,Y9 s.2 (x.f,x.g,x.h++([r.1]:List yf),([s.1]:List y6),kl x.I))) else none)) (k0 x.C))
 | .inr x=>nz (Z0 x.b x.1 (ye (yz (x.c,x.d,x.e)) fun r=>ye (Yf r.2) fun s=>YS x.h ([r.1]:List yf) 8 (YS x.i ([s.1]:List y6) 24 (a (Sum.inr (x.1,zh x.b,Y9 s.2 (x.f,x.g,x.h++([r.1]:List yf),x.i++([s.1]:List y6),kl x.J)))))) (k1 x.C))
def YW k0 k1:=iter (@zu R k0 k1) FUEL
def J0 (x:ar):Option ygr:=nz (ye (yz x) fun r=>ye (yq r.2) fun s=>Z6 (fun t=>ye (yq (t.1,t.b,t.c)) fun u=>YU (fun v=>YV (fun w=>ye (yq (w.1,w.b,w.c)) fun p=>YW (fun q=>yh (q.f,([]:List y6),Y9 q.G (q.e,q.1,q.b,q.c))) (fun m=>yh (uk m.F (m.e,m.1,m.b,m.c))) (Sum.inl (p.1,0,Y9 p.2 (Dx w.D)))) (0,zF9 v)) (u.1,0,Y9 u.2 (Dx t.D))) (s.1,0,Y9 s.2 (0,r.1,([]:List yf),([]:List yb),([]:List ya),([]:List yj))))
def u4:List QF:=[y4y,y1x,ymy,ymz,ymB]
def L1 (t:Elts nB):St:=nd (stP nB [.b 900,.d 1,.b 2,.b 3,.d 14,.v 2,.d 86] [(900,[.v 3]),(2,[.s,.s,.s,.s,.s,.v 1]),(3,[.o 10000000,.s,.o 10000001,.o 10000002,.o 10000003,.v 1]),(10000000,[]),(10000001,[]),(10000002,[]),(10000003,[])] t)
def y1I:Gk kL:=fun κ=>nd (YE (zM κ (some 0) OT [.b 900,.d 1,.b 2,.b 3,.d 102] [(900,[.v 3]),(2,[.s,.s,.s,.s,.s,.v 1]),(3,[.o 10000000,.s,.o 10000001,.o 10000002,.o 10000003,.v 1]),(10000000,[]),(10000001,[]),(10000002,[]),(10000003,[])]))
def DN (t:Elts nB):St:=nd (stP nB [.b 900,.d 1,.b 2,.b 3,.d 33,.v 2,.d 67] [(900,[.v 3]),(2,[.s,.s,.s,.s,.s,.v 1]),(3,[.o 10000000,.s,.o 10000001,.o 10000002,.o 10000003,.v 1]),(10000000,[]),(10000001,[]),(10000002,[]),(10000003,[])] t)
def R7:Gk W_:=fun κ=>nd (Yu (zM κ (some 2) OT [.b 900,.d 1,.b 2,.b 3,.d 102] [(900,[.v 3]),(2,[.s,.s,.s,.s,.s,.v 1]),(3,[.o 10000000,.s,.o 10000001,.o 10000002,.o 10000003,.v 1]),(10000000,[]),(10000001,[]),(10000002,[]),(10000003,[])]))
def DO (t:Elts XI):St:=nd (stP XI [.b 900,.d 1,.b 2,.b 3,.d 56,.v 1,.d 45] [(900,[.v 3]),(2,[.s,.s,.s,.s,.s,.v 1]),(3,[.o 10000000,.s,.o 10000001,.o 10000002,.o 10000003,.v 1]),(10000000,[]),(10000001,[]),(10000002,[]),(10000003,[])] t)
def R8:Gk k6:=fun κ=>nd (Yv (zM κ (some 4) OT [.b 900,.d 1,.b 2,.b 3,.d 102] [(900,[.v 3]),(2,[.s,.s,.s,.s,.s,.v 1]),(3,[.o 10000000,.s,.o 10000001,.o 10000002,.o 10000003,.v 1]),(10000000,[]),(10000001,[]),(10000002,[]),(10000003,[])]))
def mM (t:Elts nB):St:=nd (stP nB [.b 900,.d 1,.b 2,.b 3,.d 77,.v 2,.d 23] [(900,[.v 3]),(2,[.s,.s,.s,.s,.s,.v 1]),(3,[.o 10000000,.s,.o 10000001,.o 10000002,.o 10000003,.v 1]),(10000000,[]),(10000001,[]),(10000002,[]),(10000003,[])] t)
theorem SY: ∀ s t,zR nB mM s=some t→mM t=s:=Y3 fun t=>by kernel_rfl
def mN (t:Elts OV):St:=nd (stP OV [.b 900,.d 1,.b 2,.b 3,.d 77,.v 2,.d 23] [(900,[.v 3]),(2,[.s,.s,.s,.s,.s,.v 1]),(3,[.o 10000000,.o 10000001,.o 10000002,.o 10000003,.o 10000004,.v 1]),(10000000,[]),(10000001,[]),(10000002,[]),(10000003,[]),(10000004,[])] t)
theorem SZ: ∀ s t,zR OV mN s=some t→mN t=s:=Y3 fun t=>by kernel_rfl
def mO:(Dv ⊕ OU)→St:=Sum.elim mM mN
def sF (s:St):Option (Dv ⊕ OU):=((zR nB mM s).map Sum.inl).or (((zR OV mN) s).map Sum.inr)
theorem S_: ∀ s t,sF s=some t→mO t=s:=Kz SY SZ
def xq:Gk J5:=fun κ=>nd (zu (zM κ (some 6) OT [.b 900,.d 1,.b 2,.b 3,.d 102] [(900,[.v 3]),(2,[.s,.s,.s,.s,.s,.v 1]),(3,[.o 10000000,.s,.o 10000001,.o 10000002,.o 10000003,.v 1]),(10000000,[]),(10000001,[]),(10000002,[]),(10000003,[])]) (zM κ (some 6) ygq [.b 900,.d 1,.b 2,.b 3,.d 102] [(900,[.v 3]),(2,[.s,.s,.s,.s,.s,.v 1]),(3,[.o 10000000,.o 10000001,.o 10000002,.o 10000003,.o 10000004,.v 1]),(10000000,[]),(10000001,[]),(10000002,[]),(10000003,[]),(10000004,[])]))
def u6:Lp:=YT 31 sF @xq (YT 22 (zR XI DO) @R8 (YT 13 (zR nB DN) @R7 (YT 5 (zR nB L1) @y1I ZM)))
theorem ye1:LK u4 u6 131 Tryz.f131 0:=Zm 5 L1 @y1I
theorem y4z:LK u4 u6 131 Tryz.f131 1:=Zm 13 DN @R7
theorem y4A:LK u4 u6 131 Tryz.f131 2:=Zm 22 DO @R8
theorem T0:LF u4 u6 131 31 Tryz.f131 3 mO @xq fun v:Dv=> .inl v:=fun R κ again v=>by kernel_rfl
theorem T2:LF u4 u6 131 31 Tryz.f131 3 mO @xq fun v:OU=> .inr v:=fun R κ again v=>by kernel_rfl
theorem y4B:LF u4 u6 131 31 Tryz.f131 3 mO @xq fun t=>t:=(LC.sum T0 T2)
theorem y4C:LK u4 u6 131 Tryz.f131 3:=Gc (u:=sF) S_ y4B
def ymC:=qN 131 J0 y8P 4 u4 u6 Tryz.func131 ⟨ye1,y4z,y4A,y4C,trivial⟩
def fc (x:ygs):Option Bool:=nz (yh ((textOf x.1).toList==(textOf x.2).toList))
def ymD:=q0 132 fc y8Q [] Tryz.func132
def wG (x:List yn):Option Dm:=nz (ye (J0 (x,0,false)) fun r=>ye (j_ r.G) fun s=>wM (!s.1) (ye (KU (r.1,r.b,r.c,r.d,r.e,r.f)) fun t=>yh (!t)) fun u=>wM u (ye (wz (r.1,r.b,r.c,r.d,r.e,r.f)) fun v=>ye (fc (v,x)) fun w=>yh (!w)) fun p=>zw p (yh (([]:List yf),([]:List y6),([]:List yb),([]:List ya),([]:List yj),0,false)) (yh (Vn r true)))
def q62:=q0 62 wG yhG [q8,q37,yjs,ymC,ymD] Tryz.func62
abbrev WG:Type:=OW ⊕ OY
def Jf (k0:ygt→Option R) (k1:ygv→Option R) (a:WG→Option R):WG→Option R
 | .inl x=>nz (Z0 x.1 2 (ye (Zf (fX x.2 x.1)) fun r=>ye (jh r) fun s=>dO (!s.F) (Int.tmod s.1 2 !=x.1) fun t=>dO t (decide (s.1≤x.k)) fun u=>zw u (a (Sum.inl (zh x.1,XO x.2))) (ye (YN (fX x.2 (s.1,s.b,s.c,s.d,s.e))) fun v=>ye (wG v.1) fun w=>KA v.2 w.G fun p=>zw p (a (Sum.inr (v.1,zh x.1,zT9 x.2 (s.1,s.b,s.c,s.d,s.e)))) (a (Sum.inl (zh x.1,XO x.2))))) (k0 x.F))
 | .inr x=>nz (Z0 x.b 2 (ye (Zf (fX x.C x.b)) fun r=>ye (jh r) fun s=>dO (!s.F) (Int.tmod s.1 2 !=x.b) fun t=>dO t (decide (s.1≤x.l)) fun u=>zw u (a (Sum.inr (x.1,zh x.b,XN x.C))) (ye (YN (fX x.C (s.1,s.b,s.c,s.d,s.e))) fun v=>ye (wG v.1) fun w=>KA v.2 w.G fun p=>zw p (a (Sum.inr (v.1,zh x.b,zT9 x.C (s.1,s.b,s.c,s.d,s.e)))) (a (Sum.inr (x.1,zh x.b,XN x.C))))) (k1 (x.1,x.G)))
def iX k0 k1:=iter (@Jf R k0 k1) FUEL
def ac (x:uV):Option y6d:=nz (iX (fun r=>yh (aN r.F (decide (r.f>0)))) (fun s=>yh (uk s.G (s.1,decide (s.g>0)))) (Sum.inl (0,mH x (0,0,0,0,0,0,0,0,0,0,([]:List yn)))))
def y1J:List QF:=[q12,q13,q61,q62]
def xt (t:Elts OX):St:=nd (stP OX [.d 1,.b 1,.b 2,.d 2,.b 5,.o 10000000,.d 9,.v 1,.d 48] [(1,[.v 4]),(2,[.v 5]),(5,[.v 5]),(10000000,[])] t)
theorem y4D: ∀ s t,zR OX xt s=some t→xt t=s:=Y3 fun t=>by kernel_rfl
def xu (t:Elts OZ):St:=nd (stP OZ [.d 1,.b 1,.b 2,.d 2,.b 5,.v 1,.d 9,.v 1,.d 48] [(1,[.v 4]),(2,[.v 5]),(5,[.v 5])] t)
theorem y4E: ∀ s t,zR OZ xu s=some t→xu t=s:=Y3 fun t=>by kernel_rfl
def xw:(OW ⊕ OY)→St:=Sum.elim xt xu
def Fg (s:St):Option (OW ⊕ OY):=((zR OX xt s).map Sum.inl).or (((zR OZ xu) s).map Sum.inr)
theorem y4F: ∀ s t,Fg s=some t→xw t=s:=Kz y4D y4E
def R9:Gk WG:=fun κ=>nd (Jf (zM κ (some 0) ygu [.d 2,.b 2,.d 2,.b 5,.o 10000000,.d 58] [(2,[.v 5]),(5,[.v 5]),(10000000,[])]) (zM κ (some 0) ygw [.d 2,.b 2,.d 2,.b 5,.v 1,.d 58] [(2,[.v 5]),(5,[.v 5])]))
def y1K:Lp:=YT 4 Fg @R9 ZM
theorem y4G:LF y1J y1K 19 4 Tryz.f19 0 xw @R9 fun v:OW=> .inl v:=fun R κ again v=>by kernel_rfl
theorem y4H:LF y1J y1K 19 4 Tryz.f19 0 xw @R9 fun v:OY=> .inr v:=fun R κ again v=>by kernel_rfl
theorem yjt:LF y1J y1K 19 4 Tryz.f19 0 xw @R9 fun t=>t:=(LC.sum y4G y4H)
theorem yju:LK y1J y1K 19 Tryz.f19 0:=Gc (u:=Fg) y4F yjt
def q19:=qN 19 ac yhH 1 y1J y1K Tryz.func19 ⟨yju,trivial⟩
def KV (x:TW):Option Int:=nz (z6 x.1 x.2 (z6 x.1 (zh x.2) (z6 x.1 (JP x.2 2) (z6 x.1 (JP x.2 3) (yh (Go.bits .or .i64 (Go.bits .or .i64 (Go.bits .or .i64 (dP (fY (wP x.1 x.2)) (2^min (Int.toNat 24) (Go.IntKind.bits .i64))) (dP (fY (wP x.1 (zh x.2))) (2^min (Int.toNat 16) (Go.IntKind.bits .i64)))) (dP (fY (wP x.1 (JP x.2 2))) (2^min (Int.toNat 8) (Go.IntKind.bits .i64)))) (fY (wP x.1 (JP x.2 3)))))))))
def ymE:=q0 133 KV y8R [] Tryz.func133
def JK (x:TW):Option y68:=nz (ye (yx (x.2,0,zsb x.1.z 2)) fun r=>zw (!r) (yh (0,0,false)) (z6 x.1 x.2 (z6 x.1 (zh x.2) (yh (Go.bits .or .i64 (dP (fY (wP x.1 x.2)) (2^min (Int.toNat 8) (Go.IntKind.bits .i64))) (fY (wP x.1 (zh x.2))),JP x.2 2,true)))))
def ye2:=q0 134 JK y8S [mI] Tryz.func134
def Jg (x:List yn):Option Hn:=nz (wM (x.z !=15) (ye (KV (x,11)) fun r=>oc 0 11 x.z (ye (W8 (aD x 0 11)) fun s=>yh (r !=s))) fun t=>zw t (yh (0,0,0,0,0,false)) (ye (JK (x,0)) fun u=>ye (JK (x,3)) fun v=>ye (JK (x,9)) fun w=>z6 x 2 (ye (KV (x,5)) fun p=>ye (kH (u.1,fY (wP x 2),v.1,p,w.1)) fun q=>zw (!q) (yh (0,0,0,0,0,false)) (yh (u.1,fY (wP x 2),v.1,p,w.1,true)))))
def q63:=q0 63 Jg yhI [q52,yje,ymE,ye2] Tryz.func63
def ze (x:ar):Option pc:=nz (dO x.C (decide (x.b≥x.1.z)) fun r=>zw r (yh (0,x.1,x.b,true)) (z6 x.1 (jE (zh x.b)) (yh (fY (wP x.1 (jE (zh x.b))),x.1,zh x.b,x.C))))
def T3:=q0 136 ze y8T [] Tryz.func136
def zQ (x:ar):Option pc:=nz (ye (ze x) fun r=>ye (ze r.2) fun s=>yh (Go.bits .or .i64 (dP r.1 (2^min (Int.toNat 8) (Go.IntKind.bits .i64))) s.1,kl s.2))
def ymF:=q0 135 zQ y8U [T3] Tryz.func135
def jp (x:ar):Option XH:=nz (ye (ze x) fun r=>dO r.D (decide (r.1>1)) fun s=>yh (r.1==1,r.b,r.c,s))
def yjv:=q0 138 jp y8V [T3] Tryz.func138
def kM (x:TW):Option y69:=nz (ye (JK x) fun r=>dO (!r.C) (decide (r.1>60)) fun s=>dO s (decide (r.1>zsb x.1.z r.b)) fun t=>zw t (yh ({data:= #[]},0,false)) (oc r.b (JP r.b r.1) x.1.z (yh (textOf (aD x.1 r.b (JP r.b r.1)),JP r.b r.1,true))))
def ymG:=q0 219 kM y8W [ye2] Tryz.func219
def KW (x:ar):Option ygx:=nz (ye (kM (x.1,x.b)) fun r=>dO x.C (!r.C) fun s=>zw s (yh ((⟨#[]⟩:ByteArray),0,0,false,x.1,x.b,true)) (ye (ze (x.1,r.b,x.C)) fun t=>ye (ze t.2) fun u=>ye (jp u.2) fun v=>yh (r.1,t.1,u.1,v)))
def ymH:=q0 137 KW y8X [T3,yjv,ymG] Tryz.func137
def KX (x:TW):Option ygy:=nz (ye (yx (x.2,0,zsb x.1.z 6)) fun r=>zw (!r) (yh (0,0,0,0,0,0,false)) (ye (JK (x.1,JP x.2 4)) fun s=>z6 x.1 x.2 (z6 x.1 (zh x.2) (z6 x.1 (JP x.2 2) (z6 x.1 (JP x.2 3) (ye (wY (fY (wP x.1 x.2),fY (wP x.1 (zh x.2)),fY (wP x.1 (JP x.2 2)),fY (wP x.1 (JP x.2 3)),s.1)) fun t=>zw (!t) (yh (0,0,0,0,0,0,false)) (yh (fY (wP x.1 x.2),fY (wP x.1 (zh x.2)),fY (wP x.1 (JP x.2 2)),fY (wP x.1 (JP x.2 3)),s.1,s.b,true))))))))
def ymI:=q0 282 KX y8Y [mI,ye2,y3E] Tryz.func282
abbrev Qm:Type:=ygz
def jA (k0:y6e→Option R) (k1:y6e→Option R) (a:Qm→Option R) (x:Qm):Option R:=nz (KA (decide (x.1>0)) (!x.d) fun r=>zw r (ye (KX (x.b,x.c)) fun s=>zw (!s.G) (k0 (x.b,x.c,true,x.E)) (YS x.E ([(s.1,s.b,s.c,s.d,s.e)]:List y7) 40 (a (jE x.1,x.b,s.f,x.d,x.E++([(s.1,s.b,s.c,s.d,s.e)]:List y7))))) (k1 x.2))
def Qn k0 k1:=iter (@jA R k0 k1) FUEL
def kN (x:ar):Option ygA:=nz (ye (ze x) fun r=>Qn (fun s=>yh (s.D,s.1,s.b,s.c)) (fun t=>yh (t.D,t.1,t.b,t.c)) (mH r ([]:List y7)))
def ybe:List QF:=[T3,ymI]
def L2 (t:Elts XJ):St:=nd (stP XJ [.b 900,.d 2,.o 10000000,.v 1,.d 45] [(900,[.v 3]),(10000000,[])] t)
def y1L:Gk Qm:=fun κ=>nd (jA (zM κ none y6f [.b 900,.d 1,.o 10000000,.o 10000000,.d 46] [(900,[.v 3]),(10000000,[])]) (zM κ (some 0) y6f [.b 900,.d 2,.o 10000000,.d 46] [(900,[.v 3]),(10000000,[])]))
def ybf:Lp:=YT 3 (zR XJ L2) @y1L ZM
theorem ye3:LK ybe ybf 220 Tryz.f220 0:=Zm 3 L2 @y1L
def ymJ:=qN 220 kN y8Z 1 ybe ybf Tryz.func220 ⟨ye3,trivial⟩
abbrev Kl:Type:=pc ⊕ O_
def Yl (k0:ar→Option R) (k1:y6a→Option R) (a:Kl→Option R):Kl→Option R
 | .inl x=>nz (KA (decide (x.1>0)) (!x.D) fun r=>zw r (ye (kN x.2) fun s=>if List.length ([s.1]:List yc)*24<140737488355328 then a (Sum.inr (jE x.1,Y9 s.2 ([s.1]:List yc))) else none) (k0 x.2))
 | .inr x=>nz (KA (decide (x.1>0)) (!x.d) fun r=>zw r (ye (kN (x.b,x.c,x.d)) fun s=>YS x.E ([s.1]:List yc) 24 (a (Sum.inr (jE x.1,Y9 s.2 (x.E++([s.1]:List yc)))))) (k1 x.2))
def Km k0 k1:=iter (@Yl R k0 k1) FUEL
def Zh (x:ar):Option y6c:=nz (ye (ze x) fun r=>Km (fun s=>yh (([]:List yc),kl s)) (fun t=>yh (t.D,t.1,t.b,t.c)) (Sum.inl r))
def L3:List QF:=[T3,ymJ]
def pW (t:Elts OJ):St:=nd (stP OJ [.b 900,.d 1,.b 2,.b 3,.v 1,.d 24] [(900,[.v 3]),(2,[.s]),(3,[.s])] t)
theorem y1M: ∀ s t,zR OJ pW s=some t→pW t=s:=Y3 fun t=>by kernel_rfl
def pX (t:Elts P0):St:=nd (stP P0 [.b 900,.d 1,.b 2,.b 3,.v 1,.d 24] [(900,[.v 3]),(2,[.s]),(3,[.o 10000000]),(10000000,[])] t)
theorem y1N: ∀ s t,zR P0 pX s=some t→pX t=s:=Y3 fun t=>by kernel_rfl
def pY:(pc ⊕ O_)→St:=Sum.elim pW pX
def Bc (s:St):Option (pc ⊕ O_):=((zR OJ pW s).map Sum.inl).or (((zR P0 pX) s).map Sum.inr)
theorem y1O: ∀ s t,Bc s=some t→pY t=s:=Kz y1M y1N
def Fh:Gk Kl:=fun κ=>nd (Yl (zM κ (some 0) au [.b 900,.d 1,.b 2,.b 3,.d 25] [(900,[.v 3]),(2,[.s]),(3,[.s])]) (zM κ (some 0) y6b [.b 900,.d 1,.b 2,.b 3,.d 25] [(900,[.v 3]),(2,[.s]),(3,[.o 10000000]),(10000000,[])]))
def L4:Lp:=YT 3 Bc @Fh ZM
theorem y1P:LF L3 L4 139 3 Tryz.f139 0 pY @Fh fun v:pc=> .inl v:=fun R κ again v=>by kernel_rfl
theorem y1Q:LF L3 L4 139 3 Tryz.f139 0 pY @Fh fun v:O_=> .inr v:=fun R κ again v=>by kernel_rfl
theorem ye4:LF L3 L4 139 3 Tryz.f139 0 pY @Fh fun t=>t:=(LC.sum y1P y1Q)
theorem ye5:LK L3 L4 139 Tryz.f139 0:=Gc (u:=Bc) y1O ye4
def ymK:=qN 139 Zh y8_ 1 L3 L4 Tryz.func139 ⟨ye5,trivial⟩
abbrev Qo:Type:=A_
def Zv (k0:P1→Option R) (a:Qo→Option R) (x:Qo):Option R:=nz (KA (decide (x.b>0)) (!x.f) fun r=>zw r (ye (ze (x.d,x.e,x.f)) fun s=>ye (ze s.2) fun t=>YS x.i ([(s.1,t.1)]:List yb) 16 (a (x.1,jE x.b,x.c,Y9 t.2 (x.g,x.h,x.i++([(s.1,t.1)]:List yb),x.j,x.K)))) (k0 (x.1,x.C)))
def jB k0:=iter (@Zv R k0) FUEL
abbrev qB:Type:=A_
def Zi (k0:P1→Option R) (a:qB→Option R) (x:qB):Option R:=nz (KA (decide (x.b>0)) (!x.f) fun r=>zw r (ye (KW (x.d,x.e,x.f)) fun s=>YS x.K ([(s.1,s.b,s.c,s.d)]:List yj) 40 (a (x.1,jE x.b,x.c,Y9 s.E (fX x.G (x.K++([(s.1,s.b,s.c,s.d)]:List yj)))))) (k0 (x.1,x.C)))
def ZT k0:=iter (@Zi R k0) FUEL
abbrev qC:Type:=A_
def Zj (k0:P1→Option R) (a:qC→Option R) (x:qC):Option R:=nz (KA (decide (x.b<24)) (!x.f) fun r=>zw r (ye (zQ (x.d,x.e,x.f)) fun s=>ye (jp s.2) fun t=>ye (zQ t.2) fun u=>YS x.j ([(s.1,t.1,u.1)]:List ya) 24 (a (x.1,zh x.b,x.c,Y9 u.2 (wX x.G (x.j++([(s.1,t.1,u.1)]:List ya),x.K))))) (k0 (x.1,x.C)))
def ZU k0:=iter (@Zj R k0) FUEL
abbrev kc:Type:=A_ ⊕ P3
def Y8 (k0:P1→Option R) (k1:ygB→Option R) (a:kc→Option R):kc→Option R
 | .inl x=>nz (KA (decide (x.b>0)) (!x.f) fun r=>zw r (ye (zQ (x.d,x.e,x.f)) fun s=>ye (Zh s.2) fun t=>YS x.h ([s.1]:List yf) 8 (if List.length ([t.1]:List y6)*24<140737488355328 then a (Sum.inr (x.1,jE x.b,x.c,Y9 t.2 (x.g,x.h++([s.1]:List yf),([t.1]:List y6),kl x.I))) else none)) (k0 (x.1,x.C)))
 | .inr x=>nz (KA (decide (x.b>0)) (!x.f) fun r=>zw r (ye (zQ (x.d,x.e,x.f)) fun s=>ye (Zh s.2) fun t=>YS x.h ([s.1]:List yf) 8 (YS x.i ([t.1]:List y6) 24 (a (Sum.inr (x.1,jE x.b,x.c,Y9 t.2 (x.g,x.h++([s.1]:List yf),x.i++([t.1]:List y6),kl x.J)))))) (k1 (x.1,x.C)))
def ZV k0 k1:=iter (@Y8 R k0 k1) FUEL
def wH (x:List yn):Option Dm:=nz (ye (zQ (x,0,false)) fun r=>ye (ze r.2) fun s=>jB (fun t=>ye (ze (t.c,t.d,t.e)) fun u=>ZT (fun v=>ZU (fun w=>ye (ze (w.c,w.d,w.e)) fun p=>ZV (fun q=>dO q.e (q.d !=q.1.z) fun m=>wM m (ye (yZ (q.g,([]:List y6),Y9 q.H q.f)) fun n=>yh (!n)) fun o=>zw o (yh (([]:List yf),([]:List y6),([]:List yb),([]:List ya),([]:List yj),0,false)) (yh (q.g,([]:List y6),Y9 q.H (q.f,true)))) (fun e=>dO e.e (e.d !=e.1.z) fun f=>wM f (ye (yZ (uk e.G e.f)) fun g=>yh (!g)) fun h=>zw h (yh (([]:List yf),([]:List y6),([]:List yb),([]:List ya),([]:List yj),0,false)) (yh (uk e.G (e.f,true)))) (Sum.inl (w.1,p.1,w.b,Y9 p.2 w.F))) (v.1,0,zF9 v.2)) (t.1,u.1,t.b,Y9 u.2 t.F)) (x,s.1,0,Y9 s.2 (r.1,([]:List yf),([]:List yb),([]:List ya),([]:List yj))))
def L5:List QF:=[q85,ymF,T3,ymH,yjv,ymK]
def Ra (t:Elts fB):St:=nd (stP fB [.v 1,.d 1,.b 2,.d 1,.b 17,.b 5,.v 1,.d 139] [(2,[.s,.s,.s,.s,.s,.v 1]),(17,[.v 3]),(5,[.o 10000000,.s,.o 10000001,.o 10000002,.o 10000003,.v 1]),(10000000,[]),(10000001,[]),(10000002,[]),(10000003,[])] t)
def ybg:Gk Qo:=fun κ=>nd (Zv (zM κ (some 0) P2 [.v 1,.d 1,.b 2,.d 1,.b 17,.b 5,.d 140] [(2,[.s,.s,.s,.s,.s,.v 1]),(17,[.v 3]),(5,[.o 10000000,.s,.o 10000001,.o 10000002,.o 10000003,.v 1]),(10000000,[]),(10000001,[]),(10000002,[]),(10000003,[])]))
def L6 (t:Elts fB):St:=nd (stP fB [.v 1,.d 1,.b 2,.d 1,.b 17,.b 5,.d 2,.v 1,.d 137] [(2,[.s,.s,.s,.s,.s,.v 1]),(17,[.v 3]),(5,[.o 10000000,.s,.o 10000001,.o 10000002,.o 10000003,.v 1]),(10000000,[]),(10000001,[]),(10000002,[]),(10000003,[])] t)
def y1R:Gk qB:=fun κ=>nd (Zi (zM κ (some 2) P2 [.v 1,.d 1,.b 2,.d 1,.b 17,.b 5,.d 140] [(2,[.s,.s,.s,.s,.s,.v 1]),(17,[.v 3]),(5,[.o 10000000,.s,.o 10000001,.o 10000002,.o 10000003,.v 1]),(10000000,[]),(10000001,[]),(10000002,[]),(10000003,[])]))
def L7 (t:Elts fB):St:=nd (stP fB [.v 1,.d 1,.b 2,.d 1,.b 17,.b 5,.d 4,.v 1,.d 135] [(2,[.s,.s,.s,.s,.s,.v 1]),(17,[.v 3]),(5,[.o 10000000,.s,.o 10000001,.o 10000002,.o 10000003,.v 1]),(10000000,[]),(10000001,[]),(10000002,[]),(10000003,[])] t)
def y1S:Gk qC:=fun κ=>nd (Zj (zM κ (some 4) P2 [.v 1,.d 1,.b 2,.d 1,.b 17,.b 5,.d 140] [(2,[.s,.s,.s,.s,.s,.v 1]),(17,[.v 3]),(5,[.o 10000000,.s,.o 10000001,.o 10000002,.o 10000003,.v 1]),(10000000,[]),(10000001,[]),(10000002,[]),(10000003,[])]))
def pZ (t:Elts fB):St:=nd (stP fB [.v 1,.d 1,.b 2,.d 1,.b 17,.b 5,.d 6,.v 1,.d 133] [(2,[.s,.s,.s,.s,.s,.v 1]),(17,[.v 3]),(5,[.o 10000000,.s,.o 10000001,.o 10000002,.o 10000003,.v 1]),(10000000,[]),(10000001,[]),(10000002,[]),(10000003,[])] t)
theorem y1T: ∀ s t,zR fB pZ s=some t→pZ t=s:=Y3 fun t=>by kernel_rfl
def p_ (t:Elts P4):St:=nd (stP P4 [.v 1,.d 1,.b 2,.d 1,.b 17,.b 5,.d 6,.v 1,.d 133] [(2,[.s,.s,.s,.s,.s,.v 1]),(17,[.v 3]),(5,[.o 10000000,.o 10000001,.o 10000002,.o 10000003,.o 10000004,.v 1]),(10000000,[]),(10000001,[]),(10000002,[]),(10000003,[]),(10000004,[])] t)
theorem y1U: ∀ s t,zR P4 p_ s=some t→p_ t=s:=Y3 fun t=>by kernel_rfl
def rc:(A_ ⊕ P3)→St:=Sum.elim pZ p_
def Bd (s:St):Option (A_ ⊕ P3):=((zR fB pZ s).map Sum.inl).or (((zR P4 p_) s).map Sum.inr)
theorem y1V: ∀ s t,Bd s=some t→rc t=s:=Kz y1T y1U
def Fi:Gk kc:=fun κ=>nd (Y8 (zM κ (some 6) P2 [.v 1,.d 1,.b 2,.d 1,.b 17,.b 5,.d 140] [(2,[.s,.s,.s,.s,.s,.v 1]),(17,[.v 3]),(5,[.o 10000000,.s,.o 10000001,.o 10000002,.o 10000003,.v 1]),(10000000,[]),(10000001,[]),(10000002,[]),(10000003,[])]) (zM κ (some 6) ygC [.v 1,.d 1,.b 2,.d 1,.b 17,.b 5,.d 140] [(2,[.s,.s,.s,.s,.s,.v 1]),(17,[.v 3]),(5,[.o 10000000,.o 10000001,.o 10000002,.o 10000003,.o 10000004,.v 1]),(10000000,[]),(10000001,[]),(10000002,[]),(10000003,[]),(10000004,[])]))
def L8:Lp:=YT 22 Bd @Fi (YT 15 (zR fB L7) @y1S (YT 10 (zR fB L6) @y1R (YT 4 (zR fB Ra) @ybg ZM)))
theorem yjw:LK L5 L8 64 Tryz.f64 0:=Zm 4 Ra @ybg
theorem ye6:LK L5 L8 64 Tryz.f64 1:=Zm 10 L6 @y1R
theorem ye7:LK L5 L8 64 Tryz.f64 2:=Zm 15 L7 @y1S
theorem y1W:LF L5 L8 64 22 Tryz.f64 3 rc @Fi fun v:A_=> .inl v:=fun R κ again v=>by kernel_rfl
theorem y1X:LF L5 L8 64 22 Tryz.f64 3 rc @Fi fun v:P3=> .inr v:=fun R κ again v=>by kernel_rfl
theorem ye8:LF L5 L8 64 22 Tryz.f64 3 rc @Fi fun t=>t:=(LC.sum y1W y1X)
theorem ye9:LK L5 L8 64 Tryz.f64 3:=Gc (u:=Bd) y1V ye8
def q64:=qN 64 wH yhJ 4 L5 L8 Tryz.func64 ⟨yjw,ye6,ye7,ye9,trivial⟩
abbrev WH:Type:=P5 ⊕ P8
def Jh (k0:ygD→Option R) (k1:ygF→Option R) (a:WH→Option R):WH→Option R
 | .inl x=>nz (Z0 x.b 2 (ye (ZH (fX x.C x.b)) fun r=>ye (Jg r) fun s=>dO (!s.F) (Int.tmod s.1 2 !=x.b) fun t=>wM t (KA x.1 (decide (s.1<x.l)) fun u=>yh u) fun v=>zw v (a (Sum.inl (x.1,zh x.b,XO x.C))) (ye (Zu (fX x.C (s.1,s.b,s.c,s.d,s.e))) fun w=>ye (wH w.1) fun p=>KA w.2 p.G fun q=>zw q (a (Sum.inr (w.1,true,zh x.b,zT9 x.C (s.1,s.b,s.c,s.d,s.e)))) (a (Sum.inl (x.1,zh x.b,XO x.C))))) (k0 (x.1,x.G)))
 | .inr x=>nz (Z0 x.c 2 (ye (ZH (fX x.D x.c)) fun r=>ye (Jg r) fun s=>dO (!s.F) (Int.tmod s.1 2 !=x.c) fun t=>wM t (KA x.b (decide (s.1<x.m)) fun u=>yh u) fun v=>zw v (a (Sum.inr (x.1,x.b,zh x.c,XN x.D))) (ye (Zu (fX x.D (s.1,s.b,s.c,s.d,s.e))) fun w=>ye (wH w.1) fun p=>KA w.2 p.G fun q=>zw q (a (Sum.inr (w.1,true,zh x.c,zT9 x.D (s.1,s.b,s.c,s.d,s.e)))) (a (Sum.inr (x.1,x.b,zh x.c,XN x.D))))) (k1 (x.1,x.b,x.H)))
def iY k0 k1:=iter (@Jh R k0 k1) FUEL
def ae (x:uV):Option y6d:=nz (iY (fun r=>yh (aN r.G r.1)) (fun s=>yh (uk s.H (s.1,s.b))) (Sum.inl (false,0,mH x (0,0,0,0,0,0,0,0,0,0,([]:List yn)))))
def y1Y:List QF:=[q17,q53,q63,q64]
def xx (t:Elts P6):St:=nd (stP P6 [.d 1,.b 1,.b 2,.d 2,.b 5,.o 10000000,.v 2,.d 58] [(1,[.v 4]),(2,[.v 5]),(5,[.v 5]),(10000000,[])] t)
theorem y4I: ∀ s t,zR P6 xx s=some t→xx t=s:=Y3 fun t=>by kernel_rfl
def xy (t:Elts Pa):St:=nd (stP Pa [.d 1,.b 1,.b 2,.d 2,.b 5,.v 3,.d 58] [(1,[.v 4]),(2,[.v 5]),(5,[.v 5])] t)
theorem y4J: ∀ s t,zR Pa xy s=some t→xy t=s:=Y3 fun t=>by kernel_rfl
def xz:(P5 ⊕ P8)→St:=Sum.elim xx xy
def Fj (s:St):Option (P5 ⊕ P8):=((zR P6 xx s).map Sum.inl).or (((zR Pa xy) s).map Sum.inr)
theorem y4K: ∀ s t,Fj s=some t→xz t=s:=Kz y4I y4J
def Rb:Gk WH:=fun κ=>nd (Jh (zM κ (some 0) ygE [.d 2,.b 2,.d 2,.b 5,.o 10000000,.v 1,.d 59] [(2,[.v 5]),(5,[.v 5]),(10000000,[])]) (zM κ (some 0) ygG [.d 2,.b 2,.d 2,.b 5,.v 2,.d 59] [(2,[.v 5]),(5,[.v 5])]))
def y1Z:Lp:=YT 5 Fj @Rb ZM
theorem y4L:LF y1Y y1Z 20 5 Tryz.f20 0 xz @Rb fun v:P5=> .inl v:=fun R κ again v=>by kernel_rfl
theorem y4M:LF y1Y y1Z 20 5 Tryz.f20 0 xz @Rb fun v:P8=> .inr v:=fun R κ again v=>by kernel_rfl
theorem yjx:LF y1Y y1Z 20 5 Tryz.f20 0 xz @Rb fun t=>t:=(LC.sum y4L y4M)
theorem yjy:LK y1Y y1Z 20 Tryz.f20 0:=Gc (u:=Fj) y4K yjx
def q20:=qN 20 ae yhK 1 y1Y y1Z Tryz.func20 ⟨yjy,trivial⟩
abbrev Kn:Type:=y6g
def Ko (k0:ygH→Option R) (k1:y6h→Option R) (a:Kn→Option R) (x:Kn):Option R:=nz (Z0 x.1 x.b.z (z6 x.b x.1 (z6 x.f x.1 (zw (!((textOf (YK x.b x.1)).toList==(textOf (YK x.f x.1)).toList)) (k0 (false,x.2)) (a (zh x.1,zF8 x.2))))) (k1 x.2))
def Qp k0 k1:=iter (@Ko R k0 k1) FUEL
abbrev Kp:Type:=y6g
def Kq (k0:Bool→Option R) (k1:Unit→Option R) (a:Kp→Option R) (x:Kp):Option R:=nz (Z0 x.1 x.c.z (z6 x.c x.1 (z6 x.g x.1 (wM ((zr x.c x.1).1 !=(zr x.g x.1).1) (z6 x.c x.1 (z6 x.g x.1 (yh (!((textOf ((zr x.c x.1).2)).toList==(textOf ((zr x.g x.1).2)).toList))))) fun r=>zw r (k0 false) (a (zh x.1,zF8 x.2))))) (k1 ()))
def Qq k0 k1:=iter (@Kq R k0 k1) FUEL
def qD (x:y6h):Option Bool:=nz (dO (x.1.z !=x.e.z) (x.b.z !=x.f.z) fun r=>dO r (x.c !=x.g) fun s=>dO s (!(x.d==x.H)) fun t=>zw t (yh false) (Qp (fun u=>yh u.1) (fun v=>Qq (fun w=>yh w) (fun p=>yh true) (0,zF8 v)) (0,zF8 x)))
def yea:List QF:=[]
def Rc (t:Elts Dw):St:=nd (stP Dw [.d 2,.b 2,.b 3,.d 1,.v 1,.d 88] [(2,[.v 4]),(3,[.v 4])] t)
def ybh:Gk Kn:=fun κ=>nd (Ko (zM κ none ygI [.d 2,.b 2,.b 3,.v 1,.d 89] [(2,[.v 4]),(3,[.v 4])]) (zM κ (some 0) ygJ [.d 2,.b 2,.b 3,.d 90] [(2,[.v 4]),(3,[.v 4])]))
def Re (t:Elts Dw):St:=nd (stP Dw [.d 2,.b 2,.b 3,.d 2,.v 1,.d 87] [(2,[.v 4]),(3,[.v 4])] t)
def ybi:Gk Kp:=fun κ=>nd (Kq (zM κ none [tB] [.d 4,.v 1,.d 89] []) (zM κ (some 2) [] [.d 94] []))
def yeb:Lp:=YT 9 (zR Dw Re) @ybi (YT 4 (zR Dw Rc) @ybh ZM)
theorem yjz:LK yea yeb 22 Tryz.f22 0:=Zm 4 Rc @ybh
theorem yjA:LK yea yeb 22 Tryz.f22 1:=Zm 9 Re @ybi
def q22:=qN 22 qD yhL 2 yea yeb Tryz.func22 ⟨yjz,yjA,trivial⟩
abbrev ke:Type:=ygK
def kf (k0:ygL→Option R) (k1:ygN→Option R) (a:ke→Option R) (x:ke):Option R:=nz (Z0 x.e 24 (ye (jw (zsb 1 x.c,x.e)) fun r=>ye (Zf (x.i,x.J,x.f,x.g,r)) fun s=>Mg s.z 0 (k0 (x.1,false,x.b,x.d,x.F)) (a (fX x (zh x.e,gD x.F)))) (k1 (x.1,x.b,x.d,x.F)))
def qE k0 k1:=iter (@kf R k0 k1) FUEL
def wI (x:List yn):Option Bool:=nz (ye (od x) fun r=>zOm r (ye (QA 60) fun s=>ye (W5 x) fun t=>ye (wz t) fun u=>ye (mJ (x,2)) fun v=>ye (ZQ (mH s (Int.tmod v 2,u))) fun w=>ye (Qe u) fun p=>ye (YN (mH w (1,Int.tmod v 2,u.z,p,1))) fun q=>qE (fun m=>yh m.b) (fun n=>ye (J3 n.1) fun o=>ye (JD n.1) fun e=>ye (YN e) fun f=>ye (Zu e) fun g=>ye (kb n.1) fun h=>ye (ac h) fun i=>ye (ae h) fun j=>KA n.c ((textOf n.f).toList==(textOf n.b).toList) fun l=>WM l (ye (JB (n.g,n.H,n.d,n.e)) fun y=>yh y) fun z=>zw z (ye (ZQ o) fun b=>ye (JC o) fun c=>ye (qD (mH b c)) fun d=>KA d (f.2==g.2) fun R=>KA R ((textOf f.1).toList==(textOf g.1).toList) fun A=>KA A (i.G==j.G) fun B=>KA B (i.1==j.1&&(i.b==j.b&&(i.c==j.c&&(i.d==j.d&&(i.e==j.e&&true))))) fun C=>KA C ((textOf i.f).toList==(textOf j.f).toList) fun D=>yh D) (ye (yh false) fun E=>KA E ((textOf f.1).toList==(textOf g.1).toList) fun G=>KA G (i.G==j.G) fun H=>KA H (i.1==j.1&&(i.b==j.b&&(i.c==j.c&&(i.d==j.d&&(i.e==j.e&&true))))) fun I=>KA I ((textOf i.f).toList==(textOf j.f).toList) fun J=>yh J)) (x,u,Int.tmod v 2,q.2,0,w.c,w.D,q.1,w.1,w.b)))
def f3Q:List QF:=[q5,q6,q7,q8,q9,q10,q11,q12,q13,q14,q15,q16,q17,q18,q19,q20,q21,q22,q23]
def Rf (t:Elts XK):St:=nd (stP XK [.v 1,.d 4,.v 2,.b 7,.d 1,.o 10000000,.v 2,.d 143] [(7,[.o 10000001,.o 10000002,.v 2]),(10000000,[]),(10000001,[]),(10000002,[])] t)
def ybj:Gk ke:=fun κ=>nd (kf (zM κ none ygM [.v 1,.d 1,.v 1,.d 2,.v 1,.d 1,.b 7,.d 1,.o 10000000,.v 1,.d 144] [(7,[.o 10000001,.o 10000002,.v 2]),(10000000,[]),(10000001,[]),(10000002,[])]) (zM κ (some 0) ygO [.v 1,.d 4,.v 1,.d 1,.b 7,.d 1,.o 10000000,.v 1,.d 144] [(7,[.o 10000001,.o 10000002,.v 2]),(10000000,[]),(10000001,[]),(10000002,[])]))
def f3P:Lp:=YT 11 (zR XK Rf) @ybj ZM
theorem yjB:LK f3Q f3P 3 Tryz.f3 0:=Zm 11 Rf @ybj
def q3:=qN 3 wI sg3 1 f3Q f3P Tryz.func3 ⟨yjB,trivial⟩
end
end Go.Proofs.YtekbnpmmjciloaaGreat.XB
