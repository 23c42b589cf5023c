/- What functions compute, and that they do; part 1 of A; by a program (dec.py). No condition. -/
import Derived.Test.YtekbnpmmjciloaaGreatDA0
set_option linter.all false
namespace Go.Proofs.YtekbnpmmjciloaaGreat.XA
open Go.Proofs.YtekbnpmmjciloaaGreat.R
set_option maxRecDepth 100000
noncomputable section
variable {R:Type}
abbrev vg:Type:=yvp
def jE (k0:Int→Option R) (a:vg→Option R) (x:vg):Option R:=nz (zlt x.D x.c (zix x.b x.D (zif ((ym x.b x.D).b) (a (zin x.1,x.b,x.c,zin x.D)) (a (zT3 x (zin x.D))))) (k0 x.1))
def y09 k0:=zI (@jE R k0) zY
def w7 (x:List y6):Option Int:=nz (y09 (fun r=>zso r) (0,x,x.z,0))
def ys2:List QF:=[]
def ybj (t:yvp):St:=⟨dd 3 (vI t.1::dd 2 (yU t.2.1::vI t.2.2.1::vI t.2.2.2::dd 9 [])),[]⟩
def yoF:Gk vg:=fun κ=>jE (fun t=>κ (some 0) ⟨dd 3 (vI t::dd 14 []),[]⟩)
def ys3:Lp:=lpC 3 (unG yvq ybj) @yoF lpN
theorem yC5:LF ys2 ys3 209 3 Tryz.f209 0 ybj @yoF fun t=>t:=fun R κ again t=>by kernel_rfl
theorem yC6:LK ys2 ys3 209 Tryz.f209 0:=lkN (u:=(unG yvq ybj)) (yn fun t=>by kernel_rfl) yC5
theorem yI1:EV ys2 ys3 209 Tryz.f209 yyC [(.sl 85 yc)] [(.int .i64)] w7:=fun x=>by kernel_rfl
def yOi:QF:=⟨209,w7,okN (n:=1) Tryz.func209 ⟨yC6,trivial⟩ yI1⟩
abbrev qr:Type:=yvr
def w8 (k0:yEi→Option R) (k1:yjj→Option R) (a:qr→Option R) (x:qr):Option R:=nz (zlt x.c x.b (zix x.K x.c (zbd (YW (x.f,(yi x.K x.c).b)) fun r=>zlt r 0 (k0 (false,x.1,x.d,x.e,x.f,x.g,x.h,x.i)) (zne ((yi x.K x.c).c) 1 (a (x.1,x.b,zin x.c,zF8 x.D)) (zbd (vf (x.g,(yi x.K x.c).d,(yi x.K x.c).E)) fun s=>zom (!s.2) (zix x.j ((yi x.K x.c).d) (zso (yjg x.j ((yi x.K x.c).d)))) fun t=>zif t (k0 (false,x.1,x.d,x.e,x.f,x.g,x.h,x.i)) (zix x.j ((yi x.K x.c).d) (a (zin x.1,x.b,zin x.c,zT6 x.D (zup x.j ((yi x.K x.c).d) true,x.K)))))))) (k1 (x.1,x.d,x.e,x.f,x.g,x.h,x.i)))
def y1Q k0 k1:=zI (@w8 R k0 k1) zY
def kn (x:y7P):Option Bool:=nz (if (0:Int)≤24 then if (24:Int)≤24 then if 24*((1:Nat):Int)≤140737488351232 then zbd (zz (x.1,x.b)) fun r=>y1Q (fun s=>zso s.1) (fun t=>zbd (w7 t.e) fun u=>zso (u==t.1)) (0,r.z,0,zG6 x (List.replicate (Int.toNat 24) yjf,r)) else none else none else none)
def ys4:List QF:=[yC4,yu5,yOh,yOi]
def ybk (t:yvr):St:=⟨.dead:: .box 1 0:: .dead:: .own 10000000::vI t.1::dd 7 (.own 10000001::vI t.2.1::vI t.2.2.1::dd 43 []),[(1,.box [z6 t.2.2.2.1,yA t.2.2.2.2.1,zl t.2.2.2.2.2.1,yU t.2.2.2.2.2.2.1,Y6 t.2.2.2.2.2.2.2.1,vI t.2.2.2.2.2.2.2.2.1]),(10000000,.root true 4 y7O t.2.2.2.2.2.2.2.2.2.1),(10000001,.root true 91 yl t.2.2.2.2.2.2.2.2.2.2)]⟩
def yoG:Gk qr:=fun κ=>w8 (fun t=>κ none ⟨.dead:: .box 1 0::vB t.1:: .dead::vI t.2.1::dd 53 [],[(1,.box [z6 t.2.2.1,yA t.2.2.2.1,zl t.2.2.2.2.1,yU t.2.2.2.2.2.1,Y6 t.2.2.2.2.2.2.1,vI t.2.2.2.2.2.2.2])]⟩) (fun t=>κ (some 0) ⟨.dead:: .box 1 0::dd 2 (vI t.1::dd 53 []),[(1,.box [z6 t.2.1,yA t.2.2.1,zl t.2.2.2.1,yU t.2.2.2.2.1,Y6 t.2.2.2.2.2.1,vI t.2.2.2.2.2.2])]⟩)
def ys5:Lp:=lpC 4 (unG yvs ybk) @yoG lpN
theorem yC7:LF ys4 ys5 116 4 Tryz.f116 0 ybk @yoG fun t=>t:=fun R κ again t=>by kernel_rfl
theorem yC8:LK ys4 ys5 116 Tryz.f116 0:=lkN (u:=(unG yvs ybk)) (yn fun t=>by kernel_rfl) yC7
theorem yI2:EV ys4 ys5 116 Tryz.f116 yyD Z0 [.bool] kn:=fun x=>by kernel_rfl
def yOj:QF:=⟨116,kn,okN (n:=1) Tryz.func116 ⟨yC8,trivial⟩ yI2⟩
abbrev QE:Type:=yvt
def We (k0:yl1→Option R) (k1:y7P→Option R) (a:QE→Option R) (x:QE):Option R:=nz (zlt x.c x.b (zix x.1 x.c (zge ((yD x.1 x.c).1) x.I (k0 (false,x.D)) (a (x.1,x.b,zin x.c,zF6 x.D)))) (k1 x.D))
def y2K k0 k1:=zI (@We R k0 k1) zY
def z9 (x:y7P):Option Bool:=nz (zbd (Zd (x.1,x.b)) fun r=>zom (!r) (zbd (jC x.c) fun s=>zso (!s)) fun t=>zom t (zbd (jU x.d) fun u=>zso (!u)) fun v=>zom v (zbd (yx (x.F,1,61)) fun w=>zso (!w)) fun p=>zif p (zso false) (y2K (fun q=>zso q.1) (fun m=>zbd (ve m) fun n=>zam n (zbd (kn m) fun o=>zso o) fun e=>zso e) (x.c,x.c.z,0,zF6 x)))
def yI3:List QF:=[q35,yMl,yHR,yHU,yOg,yOj]
def yfz (t:yvt):St:=⟨.dead:: .box 1 0::dd 26 (zl t.1::vI t.2.1::vI t.2.2.1::dd 15 []),[(1,.box [z6 t.2.2.2.1,yA t.2.2.2.2.1,zl t.2.2.2.2.2.1,yU t.2.2.2.2.2.2.1,Y6 t.2.2.2.2.2.2.2.1,vI t.2.2.2.2.2.2.2.2])]⟩
def yC9:Gk QE:=fun κ=>We (fun t=>κ none ⟨.dead:: .box 1 0::vB t.1::dd 43 [],[(1,.box [z6 t.2.1,yA t.2.2.1,zl t.2.2.2.1,yU t.2.2.2.2.1,Y6 t.2.2.2.2.2.1,vI t.2.2.2.2.2.2])]⟩) (fun t=>κ (some 0) ⟨.dead:: .box 1 0::dd 44 [],[(1,.box [z6 t.1,yA t.2.1,zl t.2.2.1,yU t.2.2.2.1,Y6 t.2.2.2.2.1,vI t.2.2.2.2.2])]⟩)
def yI4:Lp:=lpC 4 (unG yvu yfz) @yC9 lpN
theorem yI5:LF yI3 yI4 37 4 Tryz.f37 0 yfz @yC9 fun t=>t:=fun R κ again t=>by kernel_rfl
theorem yI6:LK yI3 yI4 37 Tryz.f37 0:=lkN (u:=(unG yvu yfz)) (yn fun t=>by kernel_rfl) yI5
theorem yOk:EV yI3 yI4 37 Tryz.f37 yLr Z0 [.bool] z9:=fun x=>by kernel_rfl
def q37:QF:=⟨37,z9,okN (n:=1) Tryz.func37 ⟨yI6,trivial⟩ yOk⟩
def Yn (x:List y9):Option (List y9):=nz (zgd ([]:List y9) x 8 (zso (([]:List y9)++x)))
theorem yI7:EV [] lpN 192 Tryz.f192 yyE [(.sl 3 yg)] [(.sl 3 yg)] Yn:=fun x=>by kernel_rfl
def yCa:QF:=⟨192,Yn,okN (n:=0) Tryz.func192 trivial yI7⟩
abbrev Ve:Type:=ypL ⊕ yjo
def Z7 (k0:Unit→Option R) (k1:List ya→Option R) (a:Ve→Option R):Ve→Option R
 | .inl x=>nz (zlt x.C x.b (zix x.1 x.C (zbd (YK (yu x.1 x.C)) fun r=>if List.length ([r]:List ya)*24<140737488355328 then a (Sum.inr (x.1,x.b,zin x.C,([r]:List ya))) else none)) (k0 ()))
 | .inr x=>nz (zlt x.c x.b (zix x.1 x.c (zbd (YK (yu x.1 x.c)) fun r=>zgd x.D ([r]:List ya) 24 (a (Sum.inr (x.1,x.b,zin x.c,x.D++([r]:List ya)))))) (k1 x.D))
def y0V k0 k1:=zI (@Z7 R k0 k1) zY
def Y0 (x:List ya):Option (List ya):=nz (y0V (fun r=>zso ([]:List ya)) (fun s=>zso s) (Sum.inl (x,x.z,0)))
def yk9:List QF:=[yHG]
def y73 (t:ypL):St:=⟨dd 2 (.box 2 0:: .box 3 0::dd 4 (Zh t.1::vI t.2.1::vI t.2.2::dd 12 [])),[(2,.box [.nils]),(3,.box [.nils])]⟩
theorem ymB: ∀ s t,unG yDR y73 s=some t→y73 t=s:=yn fun t=>by kernel_rfl
def y74 (t:yjo):St:=⟨dd 2 (.box 2 0:: .box 3 0::dd 4 (Zh t.1::vI t.2.1::vI t.2.2.1::dd 12 [])),[(2,.box [.nils]),(3,.box [.own 10000000]),(10000000,.root true 89 yq t.2.2.2)]⟩
theorem ymC: ∀ s t,unG yvv y74 s=some t→y74 t=s:=yn fun t=>by kernel_rfl
def y75:(ypL ⊕ yjo)→St:=Sum.elim y73 y74
def ybl (s:St):Option (ypL ⊕ yjo):=((unG yDR y73 s).map Sum.inl).or (((unG yvv y74) s).map Sum.inr)
theorem ymD: ∀ s t,ybl s=some t→y75 t=s:=y5x ymB ymC
def yh2:Gk Ve:=fun κ=>Z7 (fun t=>κ (some 0) ⟨dd 2 (.box 2 0:: .box 3 0::dd 19 []),[(2,.box [.nils]),(3,.box [.nils])]⟩) (fun t=>κ (some 0) ⟨dd 2 (.box 2 0:: .box 3 0::dd 19 []),[(2,.box [.nils]),(3,.box [.own 10000000]),(10000000,.root true 89 yq t)]⟩)
def yka:Lp:=lpC 3 ybl @yh2 lpN
theorem ymE:LF yk9 yka 227 3 Tryz.f227 0 y75 @yh2 fun v:ypL=> .inl v:=fun R κ again v=>by kernel_rfl
theorem ymF:LF yk9 yka 227 3 Tryz.f227 0 y75 @yh2 fun v:yjo=> .inr v:=fun R κ again v=>by kernel_rfl
theorem yCb:LF yk9 yka 227 3 Tryz.f227 0 y75 @yh2 fun t=>t:=(LC.sum ymE ymF)
theorem yCc:LK yk9 yka 227 Tryz.f227 0:=lkN (u:=ybl) ymD yCb
theorem yI8:EV yk9 yka 227 Tryz.f227 yyF [(.sl 89 yq)] [(.sl 89 yq)] Y0:=fun x=>by kernel_rfl
def yMm:QF:=⟨227,Y0,okN (n:=1) Tryz.func227 ⟨yCc,trivial⟩ yI8⟩
abbrev Vf:Type:=yjp ⊕ yjq
def Z8 (k0:List y9→Option R) (k1:y6M→Option R) (a:Vf→Option R):Vf→Option R
 | .inl x=>nz (zlt x.c x.b (zix x.1 x.c (zbd (Y0 (yk x.1 x.c)) fun r=>if List.length ([r]:List y0)*24<140737488355328 then a (Sum.inr (x.1,x.b,zin x.c,x.D,([r]:List y0))) else none)) (k0 x.D))
 | .inr x=>nz (zlt x.c x.b (zix x.1 x.c (zbd (Y0 (yk x.1 x.c)) fun r=>zgd x.E ([r]:List y0) 24 (a (Sum.inr (x.1,x.b,zin x.c,x.d,x.E++([r]:List y0)))))) (k1 x.D))
def y0W k0 k1:=zI (@Z8 R k0 k1) zY
def zN (x:y6M):Option y6M:=nz (zbd (Yn x.1) fun r=>y0W (fun s=>zso (s,([]:List y0))) (fun t=>zso t) (Sum.inl (x.2,x.2.z,0,r)))
def ykb:List QF:=[yCa,yMm]
def y76 (t:yjp):St:=⟨dd 2 (.box 2 0:: .box 3 0::dd 7 (yA t.1::vI t.2.1::vI t.2.2.1::dd 12 [])),[(2,.box [.nils,.nils]),(3,.box [.own 10000000,.nils]),(10000000,.root true 3 yg t.2.2.2)]⟩
theorem ymG: ∀ s t,unG yvw y76 s=some t→y76 t=s:=yn fun t=>by kernel_rfl
def y77 (t:yjq):St:=⟨dd 2 (.box 2 0:: .box 3 0::dd 7 (yA t.1::vI t.2.1::vI t.2.2.1::dd 12 [])),[(2,.box [.nils,.nils]),(3,.box [.own 10000000,.own 10000001]),(10000000,.root true 3 yg t.2.2.2.1),(10000001,.root true 88 yj t.2.2.2.2)]⟩
theorem ymH: ∀ s t,unG yvx y77 s=some t→y77 t=s:=yn fun t=>by kernel_rfl
def y78:(yjp ⊕ yjq)→St:=Sum.elim y76 y77
def ybm (s:St):Option (yjp ⊕ yjq):=((unG yvw y76 s).map Sum.inl).or (((unG yvx y77) s).map Sum.inr)
theorem ymI: ∀ s t,ybm s=some t→y78 t=s:=y5x ymG ymH
def yh3:Gk Vf:=fun κ=>Z8 (fun t=>κ (some 0) ⟨dd 2 (.box 2 0:: .box 3 0::dd 22 []),[(2,.box [.nils,.nils]),(3,.box [.own 10000000,.nils]),(10000000,.root true 3 yg t)]⟩) (fun t=>κ (some 0) ⟨dd 2 (.box 2 0:: .box 3 0::dd 22 []),[(2,.box [.nils,.nils]),(3,.box [.own 10000000,.own 10000001]),(10000000,.root true 3 yg t.1),(10000001,.root true 88 yj t.2)]⟩)
def ykc:Lp:=lpC 3 ybm @yh3 lpN
theorem ymJ:LF ykb ykc 147 3 Tryz.f147 0 y78 @yh3 fun v:yjp=> .inl v:=fun R κ again v=>by kernel_rfl
theorem ymK:LF ykb ykc 147 3 Tryz.f147 0 y78 @yh3 fun v:yjq=> .inr v:=fun R κ again v=>by kernel_rfl
theorem yCd:LF ykb ykc 147 3 Tryz.f147 0 y78 @yh3 fun t=>t:=(LC.sum ymJ ymK)
theorem yCe:LK ykb ykc 147 Tryz.f147 0:=lkN (u:=ybm) ymI yCd
theorem yI9:EV ykb ykc 147 Tryz.f147 yyG kI kI zN:=fun x=>by kernel_rfl
def yIa:QF:=⟨147,zN,okN (n:=1) Tryz.func147 ⟨yCe,trivial⟩ yI9⟩
def Y1 (x:List y7):Option (List y7):=nz (zgd ([]:List y7) x 16 (zso (([]:List y7)++x)))
theorem yIb:EV [] lpN 148 Tryz.f148 yyH [(.sl 79 yh)] [(.sl 79 yh)] Y1:=fun x=>by kernel_rfl
def yIc:QF:=⟨148,Y1,okN (n:=0) Tryz.func148 trivial yIb⟩
def Y4 (x:List y6):Option (List y6):=nz (zgd ([]:List y6) x 24 (zso (([]:List y6)++x)))
theorem yId:EV [] lpN 149 Tryz.f149 yyI [(.sl 85 yc)] [(.sl 85 yc)] Y4:=fun x=>by kernel_rfl
def yIe:QF:=⟨149,Y4,okN (n:=0) Tryz.func149 trivial yId⟩
def ye (x:y7P):Option y7P:=nz (zbd (zN (x.1,x.b)) fun r=>zbd (Y1 x.c) fun s=>zbd (Y4 x.d) fun t=>zgd ([]:List yf) x.e 40 (zso (r.1,r.2,s,t,([]:List yf)++x.e,x.F)))
theorem yOl:EV [yIa,yIc,yIe] lpN 71 Tryz.f71 yLs Z0 Z0 ye:=fun x=>by kernel_rfl
def q71:QF:=⟨71,ye,okN (n:=0) Tryz.func71 trivial yOl⟩
def Vg (x:Qz8):Option Bool:=nz (zbd (yx (x.1,1,9)) fun r=>zom (!r) (zbd (Ze x.d) fun s=>zso (!s)) fun t=>zom t (zbd (Ze x.E) fun u=>zso (!u)) fun v=>zif v (zso false) (zle x.1 6 (zbd (zr x.b) fun w=>zeq x.1 2 (zbd (zr x.c) fun p=>zeq x.1 2 (zan (x.d==0) (decide (x.E≤1)) fun q=>zan w p fun m=>zan m q fun n=>zso n) (zeq x.1 3 (zeq x.1 3 (zan (x.d==0) (x.E==0) fun o=>zan w p fun e=>zan e o fun f=>zso f) (zeq x.1 4 (zan w p fun g=>zan g true fun h=>zso h) (zan w p fun i=>zan i (x.E==0) fun j=>zso j))) (zeq x.1 7 (zan (x.d==0) (x.E==0) fun l=>zan w p fun y=>zan y l fun z=>zso z) (zeq x.1 4 (zan w p fun b=>zan b true fun c=>zso c) (zan w p fun d=>zan d (x.E==0) fun R=>zso R))))) (zeq x.1 2 (zan (x.d==0) (decide (x.E≤1)) fun A=>zan w (x.c.toList==ByteArray.toList ({data:= #[]})) fun B=>zan B A fun C=>zso C) (zeq x.1 3 (zeq x.1 3 (zan (x.d==0) (x.E==0) fun D=>zan w (x.c.toList==ByteArray.toList ({data:= #[]})) fun E=>zan E D fun G=>zso G) (zeq x.1 4 (zan w (x.c.toList==ByteArray.toList ({data:= #[]})) fun H=>zan H true fun I=>zso I) (zan w (x.c.toList==ByteArray.toList ({data:= #[]})) fun J=>zan J (x.E==0) fun K=>zso K))) (zeq x.1 7 (zan (x.d==0) (x.E==0) fun L=>zan w (x.c.toList==ByteArray.toList ({data:= #[]})) fun M=>zan M L fun N=>zso N) (zeq x.1 4 (zan w (x.c.toList==ByteArray.toList ({data:= #[]})) fun O=>zan O true fun P=>zso P) (zan w (x.c.toList==ByteArray.toList ({data:= #[]})) fun Q=>zan Q (x.E==0) fun T=>zso T)))))) (zeq x.1 2 (zbd (zr x.c) fun U=>zeq x.1 2 (zan (x.d==0) (decide (x.E≤1)) fun V=>zan (x.b.toList==ByteArray.toList ({data:= #[]})) U fun W=>zan W V fun X=>zso X) (zeq x.1 3 (zeq x.1 3 (zan (x.d==0) (x.E==0) fun Y=>zan (x.b.toList==ByteArray.toList ({data:= #[]})) U fun Z=>zan Z Y fun r0=>zso r0) (zeq x.1 4 (zan (x.b.toList==ByteArray.toList ({data:= #[]})) U fun r1=>zan r1 true fun r2=>zso r2) (zan (x.b.toList==ByteArray.toList ({data:= #[]})) U fun r3=>zan r3 (x.E==0) fun r4=>zso r4))) (zeq x.1 7 (zan (x.d==0) (x.E==0) fun r5=>zan (x.b.toList==ByteArray.toList ({data:= #[]})) U fun r6=>zan r6 r5 fun r7=>zso r7) (zeq x.1 4 (zan (x.b.toList==ByteArray.toList ({data:= #[]})) U fun r8=>zan r8 true fun r9=>zso r9) (zan (x.b.toList==ByteArray.toList ({data:= #[]})) U fun r10=>zan r10 (x.E==0) fun r11=>zso r11))))) (zeq x.1 2 (zan (x.d==0) (decide (x.E≤1)) fun r12=>zan (x.b.toList==ByteArray.toList ({data:= #[]})) (x.c.toList==ByteArray.toList ({data:= #[]})) fun r13=>zan r13 r12 fun r14=>zso r14) (zeq x.1 3 (zeq x.1 3 (zan (x.d==0) (x.E==0) fun r15=>zan (x.b.toList==ByteArray.toList ({data:= #[]})) (x.c.toList==ByteArray.toList ({data:= #[]})) fun r16=>zan r16 r15 fun r17=>zso r17) (zeq x.1 4 (zan (x.b.toList==ByteArray.toList ({data:= #[]})) (x.c.toList==ByteArray.toList ({data:= #[]})) fun r18=>zan r18 true fun r19=>zso r19) (zan (x.b.toList==ByteArray.toList ({data:= #[]})) (x.c.toList==ByteArray.toList ({data:= #[]})) fun r20=>zan r20 (x.E==0) fun r21=>zso r21))) (zeq x.1 7 (zan (x.d==0) (x.E==0) fun r22=>zan (x.b.toList==ByteArray.toList ({data:= #[]})) (x.c.toList==ByteArray.toList ({data:= #[]})) fun r23=>zan r23 r22 fun r24=>zso r24) (zeq x.1 4 (zan (x.b.toList==ByteArray.toList ({data:= #[]})) (x.c.toList==ByteArray.toList ({data:= #[]})) fun r25=>zan r25 true fun r26=>zso r26) (zan (x.b.toList==ByteArray.toList ({data:= #[]})) (x.c.toList==ByteArray.toList ({data:= #[]})) fun r27=>zan r27 (x.E==0) fun r28=>zso r28))))))))
theorem yOm:EV [q35,yBT,yl2] lpN 74 Tryz.f74 yLt qz8 [.bool] Vg:=fun x=>by kernel_rfl
def q74:QF:=⟨74,Vg,okN (n:=0) Tryz.func74 trivial yOm⟩
def VD (x:yEM):Option yvy:=nz (zso (x.1.toList==x.E.toList,x.E))
theorem yIf:EV [] lpN 229 Tryz.f229 yyJ yEN yvz VD:=fun x=>by kernel_rfl
def yOn:QF:=⟨229,VD,okN (n:=0) Tryz.func229 trivial yIf⟩
abbrev Yh:Type:=yvA
def zc (k0:ylV→Option R) (k1:ByteArray→Option R) (a:Yh→Option R) (x:Yh):Option R:=nz (zlt x.c x.b (zix x.1 x.c (zbd (VD (zG4 (yd x.1 x.c) x.D)) fun r=>zif r.1 (k0 (x.c,r.2)) (a (x.1,x.b,zin x.c,r.2)))) (k1 x.D))
def Zy k0 k1:=zI (@zc R k0 k1) zY
def zM (x:yEO):Option ylV:=nz (Zy (fun r=>zso r) (fun s=>zso (-1,s)) (x.1,x.1.z,0,x.2))
def ybn:List QF:=[yOn]
def y4a (t:yvA):St:=⟨Y6 t.1:: .clo 229 901::dd 5 (vI t.2.1::vI t.2.2.1::dd 10 []),[(901,.box [vS t.2.2.2])]⟩
def ydv:Gk Yh:=fun κ=>zc (fun t=>κ none ⟨.dead:: .clo 229 901::dd 2 (vI t.1::dd 14 []),[(901,.box [vS t.2])]⟩) (fun t=>κ (some 0) ⟨.dead:: .clo 229 901::dd 17 [],[(901,.box [vS t])]⟩)
def ybo:Lp:=lpC 2 (unG yvB y4a) @ydv lpN
theorem ykd:LF ybn ybo 100003 2 Tryz.f228 0 y4a @ydv fun t=>t:=fun R κ again t=>by kernel_rfl
theorem yke:LK ybn ybo 100003 Tryz.f228 0:=lkN (u:=(unG yvB y4a)) (yn fun t=>by kernel_rfl) ykd
theorem ymL:EV ybn ybo 100003 Tryz.f228 ygO yEP yvC zM:=fun x=>by kernel_rfl
def ys6:QF:=⟨100003,zM,okN (n:=1) Tryz.func228 ⟨yke,trivial⟩ ymL⟩
def jF (x:ytY):Option Int:=nz (zbd (zM (x.e,x.G)) fun r=>zso r.1)
theorem yIg:EV [ys6] lpN 154 Tryz.f154 yyK ytZ [(.int .i64)] jF:=fun x=>by kernel_rfl
def yE0:QF:=⟨154,jF,okN (n:=0) Tryz.func154 trivial yIg⟩
abbrev Wf:Type:=yjn
def vh (k0:yjn→Option R) (a:Wf→Option R) (x:Wf):Option R:=nz (zam (decide (x.D<x.1.z)) (zix x.1 x.D (zso (decide ((yD x.1 x.D).1≤x.b)))) fun r=>zif r (a (zT3 x (zin x.D))) (k0 x))
def y2L k0:=zI (@vh R k0) zY
def JK (x:yDF):Option ytQ:=nz (y2L (fun r=>zbd (Y1 r.1) fun s=>zbd (Yx (s,r.D,([(r.b,r.c)]:List y7))) fun t=>zbd (YW (r.1,r.b)) fun u=>zom (decide (u≥0)) (zbd (jC t) fun v=>zso (!v)) fun w=>zif w (zbd (Y1 r.1) fun p=>zso (p,false)) (zso (t,true))) (zG3 x 0))
def ys7:List QF:=[yHR,yIc,yu5,yMX]
def ybp (t:yjn):St:=⟨zl t.1::vI t.2.1::vI t.2.2.1::dd 5 (vI t.2.2.2::dd 36 []),[]⟩
def yoH:Gk Wf:=fun κ=>vh (fun t=>κ (some 0) ⟨zl t.1::vI t.2.1::vI t.2.2.1::dd 5 (vI t.2.2.2::dd 36 []),[]⟩)
def ys8:Lp:=lpC 2 (unG ylU ybp) @yoH lpN
theorem yCf:LF ys7 ys8 155 2 Tryz.f155 0 ybp @yoH fun t=>t:=fun R κ again t=>by kernel_rfl
theorem yCg:LK ys7 ys8 155 Tryz.f155 0:=lkN (u:=(unG ylU ybp)) (yn fun t=>by kernel_rfl) yCf
theorem yIh:EV ys7 ys8 155 Tryz.f155 yyL yDG yDH JK:=fun x=>by kernel_rfl
def yMn:QF:=⟨155,JK,okN (n:=1) Tryz.func155 ⟨yCg,trivial⟩ yIh⟩
abbrev wH:Type:=yvD
def wI (k0:yEQ→Option R) (a:wH→Option R) (x:wH):Option R:=nz (zlt x.d x.c (zix x.b x.d (zan (!x.1) (!(Go.Op.bytesLess (((yd x.b x.d).1).toList) x.e.toList||((yd x.b x.d).1).toList==x.e.toList)) fun r=>zif r (zgd x.I ([(x.e,x.f,x.g,x.h)]:List yf) 40 (zgd (x.I++([(x.e,x.f,x.g,x.h)]:List yf)) ([zF4 (yd x.b x.d)]:List yf) 40 (a (true,x.b,x.c,zin x.d,zT4 x.E (x.I++([(x.e,x.f,x.g,x.h)]:List yf)++([zF4 (yd x.b x.d)]:List yf)))))) (zgd x.I ([zF4 (yd x.b x.d)]:List yf) 40 (a (zT3 x (zin x.d,zT4 x.E (x.I++([zF4 (yd x.b x.d)]:List yf)))))))) (k0 (x.1,x.E)))
def y0a k0:=zI (@wI R k0) zY
def jh (x:yDK):Option (List yf):=nz (y0a (fun r=>zif (!r.1) (zgd r.F ([(r.b,r.c,r.d,r.e)]:List yf) 40 (zso (r.F++([(r.b,r.c,r.d,r.e)]:List yf)))) (zso r.F)) (false,x.1,x.1.z,0,zG4 x.2 ([]:List yf)))
def ys9:List QF:=[]
def ybq (t:yvD):St:=⟨dd 3 (.box 3 0:: .dead:: .own 10000000::vB t.1::dd 3 (Y6 t.2.1::vI t.2.2.1::vI t.2.2.2.1::dd 28 [])),[(3,.box [vS t.2.2.2.2.1,vI t.2.2.2.2.2.1,vI t.2.2.2.2.2.2.1,vB t.2.2.2.2.2.2.2.1]),(10000000,.root true 81 yt t.2.2.2.2.2.2.2.2)]⟩
def yoI:Gk wH:=fun κ=>wI (fun t=>κ (some 0) ⟨dd 3 (.box 3 0:: .dead:: .own 10000000::vB t.1::dd 34 []),[(3,.box [vS t.2.1,vI t.2.2.1,vI t.2.2.2.1,vB t.2.2.2.2.1]),(10000000,.root true 81 yt t.2.2.2.2.2)]⟩)
def ysa:Lp:=lpC 4 (unG yvE ybq) @yoI lpN
theorem yCh:LF ys9 ysa 156 4 Tryz.f156 0 ybq @yoI fun t=>t:=fun R κ again t=>by kernel_rfl
theorem yCi:LK ys9 ysa 156 Tryz.f156 0:=lkN (u:=(unG yvE ybq)) (yn fun t=>by kernel_rfl) yCh
theorem yIi:EV ys9 ysa 156 Tryz.f156 yyM yDL [(.sl 81 yt)] jh:=fun x=>by kernel_rfl
def yMo:QF:=⟨156,jh,okN (n:=1) Tryz.func156 ⟨yCi,trivial⟩ yIi⟩
def zi (x:yKn):Option y6o:=nz (zom (!x.M) (zbd (z9 (x.g,x.h,x.i,x.j,x.k,x.l)) fun r=>zso (!r)) fun s=>zif s (zbd (ye (x.1,x.b,x.c,x.d,x.e,x.f)) fun t=>zso (zG6 t 6)) (zso (zT6 x.G 0)))
theorem yIj:EV [q37,q71] lpN 157 Tryz.f157 yyN yKo y6p zi:=fun x=>by kernel_rfl
def yu6:QF:=⟨157,zi,okN (n:=0) Tryz.func157 trivial yIj⟩
def vi (x:ypJ):Option y6o:=nz (zbd (z9 (x.1,x.b,x.c,x.d,x.e,x.f)) fun r=>zom (!r) (zbd (zr x.g) fun s=>zso (!s)) fun t=>zif t (zbd (ye (x.1,x.b,x.c,x.d,x.e,x.f)) fun u=>zso (zG6 u 1)) (zbd (jF (x.1,x.b,x.c,x.d,x.e,x.f,x.g)) fun v=>zge v 0 (zbd (ye (x.1,x.b,x.c,x.d,x.e,x.f)) fun w=>zso (zG6 w 3)) (zbd (yx (x.H,1,12)) fun p=>zif (!p) (zbd (ye (x.1,x.b,x.c,x.d,x.e,x.f)) fun q=>zso (zG6 q 4)) (zbd (ye (x.1,x.b,x.c,x.d,x.e,x.f)) fun m=>zbd (JK (x.c,x.f,0)) fun n=>zbd (jh (m.e,x.g,x.f,x.H,false)) fun o=>zbd (zi (zT6 x (m.1,m.b,n.1,m.d,o,zin m.F,n.2))) fun e=>zso e))))
theorem yOo:EV [q35,q37,q71,yl2,yE0,yMn,yMo,yu6] lpN 75 Tryz.f75 yLu ypK y6p vi:=fun x=>by kernel_rfl
def q75:QF:=⟨75,vi,okN (n:=0) Tryz.func75 trivial yOo⟩
def QG (x:yKp):Option y6o:=nz (zbd (jF (x.1,x.b,x.c,x.d,x.e,x.f,x.g)) fun r=>zbd (z9 (x.1,x.b,x.c,x.d,x.e,x.f)) fun s=>zom (!s) (zbd (zr x.g) fun t=>zso (!t)) fun u=>zom u (zbd (zr x.h) fun v=>zso (!v)) fun w=>zif w (zbd (ye (x.1,x.b,x.c,x.d,x.e,x.f)) fun p=>zso (zG6 p 1)) (zlt r 0 (zbd (ye (x.1,x.b,x.c,x.d,x.e,x.f)) fun q=>zso (zG6 q 2)) (zbd (jF (zT6 x x.h)) fun m=>zge m 0 (zbd (ye (x.1,x.b,x.c,x.d,x.e,x.f)) fun n=>zso (zG6 n 3)) (zbd (ye (x.1,x.b,x.c,x.d,x.e,x.f)) fun o=>zix x.e r (zbd (JK (x.c,x.f,(yd x.e r).b)) fun e=>zbd (JK (e.1,zin x.f,(yd x.e r).b)) fun f=>zix o.e r (zbd (jh (zup o.e r ((yd o.e r).1,x.f,(yd o.e r).C),x.h,zin x.f,(yd x.e r).c,x.I)) fun g=>zan e.2 f.2 fun h=>zbd (zi (zT6 x (o.1,o.b,f.1,o.d,g,zad o.F 2,h))) fun i=>zso i))))))
theorem yOp:EV [q37,q71,yl2,yE0,yMn,yMo,yu6] lpN 76 Tryz.f76 yLv yKq y6p QG:=fun x=>by kernel_rfl
def q76:QF:=⟨76,QG,okN (n:=0) Tryz.func76 trivial yOp⟩
def QH (x:ytY):Option y6o:=nz (zbd (jF x) fun r=>zbd (z9 (x.1,x.b,x.c,x.d,x.e,x.f)) fun s=>zom (!s) (zbd (zr x.G) fun t=>zso (!t)) fun u=>zif u (zbd (ye (x.1,x.b,x.c,x.d,x.e,x.f)) fun v=>zso (zG6 v 1)) (zlt r 0 (zbd (ye (x.1,x.b,x.c,x.d,x.e,x.f)) fun w=>zso (zG6 w 2)) (zbd (ye (x.1,x.b,x.c,x.d,x.e,x.f)) fun p=>zsl 0 r p.e.z (zsl (zin r) p.e.z p.e.z (zgd (List.take r.toNat p.e) (List.drop ((zin r).toNat) p.e) 40 (zbd (zi (zT6 x (zT4 p (List.take r.toNat p.e++List.drop ((zin r).toNat) p.e,p.F,true)))) fun q=>zso q))))))
theorem yOq:EV [q37,q71,yl2,yE0,yu6] lpN 77 Tryz.f77 yLw ytZ y6p QH:=fun x=>by kernel_rfl
def q77:QF:=⟨77,QH,okN (n:=0) Tryz.func77 trivial yOq⟩
def Zr (x:yER):Option yiq:=nz (zbd (jF (x.1,x.b,x.c,x.d,x.e,x.f,x.g)) fun r=>zbd (z9 (x.1,x.b,x.c,x.d,x.e,x.f)) fun s=>zom (!s) (zbd (zr x.g) fun t=>zso (!t)) fun u=>zif u (zso (r,1)) (zlt r 0 (zso (r,2)) (zam x.I (zix x.e r (zso ((yd x.e r).D))) fun v=>zif v (zso (r,5)) (zix x.e r (zbd (yx (x.h,0,zde ((yd x.e r).c))) fun w=>zif (!w) (zso (r,4)) (zso (r,0)))))))
theorem yIk:EV [q35,q37,yl2,yE0] lpN 158 Tryz.f158 yyO yES ylM Zr:=fun x=>by kernel_rfl
def yIl:QF:=⟨158,Zr,okN (n:=0) Tryz.func158 trivial yIk⟩
abbrev QI:Type:=ytV
def Wg (k0:Int→Option R) (k1:Unit→Option R) (a:QI→Option R) (x:QI):Option R:=nz (zlt x.C x.b (zix x.1 x.C (zif (!((ym x.1 x.C).b)) (k0 x.C) (a (x.1,x.b,zin x.C)))) (k1 ()))
def y2M k0 k1:=zI (@Wg R k0 k1) zY
def WJ (x:List y6):Option Int:=nz (y2M (fun r=>zso r) (fun s=>zso (-1)) (x,x.z,0))
def ysb:List QF:=[]
def ybr (t:ytV):St:=⟨dd 5 (yU t.1::vI t.2.1::vI t.2.2::dd 9 []),[]⟩
def yoJ:Gk QI:=fun κ=>Wg (fun t=>κ none ⟨dd 2 (vI t::dd 14 []),[]⟩) (fun t=>κ (some 0) ⟨dd 17 [],[]⟩)
def ysc:Lp:=lpC 2 (unG ytW ybr) @yoJ lpN
theorem yCj:LF ysb ysc 165 2 Tryz.f165 0 ybr @yoJ fun t=>t:=fun R κ again t=>by kernel_rfl
theorem yCk:LK ysb ysc 165 Tryz.f165 0:=lkN (u:=(unG ytW ybr)) (yn fun t=>by kernel_rfl) yCj
theorem yIm:EV ysb ysc 165 Tryz.f165 yyP [(.sl 85 yc)] [(.int .i64)] WJ:=fun x=>by kernel_rfl
def yMp:QF:=⟨165,WJ,okN (n:=1) Tryz.func165 ⟨yCk,trivial⟩ yIm⟩
def ZX (x:ytR):Option yKt:=nz (zbd (Y4 x.1) fun r=>zbd (WJ x.1) fun s=>zom (decide (s<0)) (zbd (Ze x.2) fun t=>zso (!t)) fun u=>zom u (zbd (jU x.1) fun v=>zso (!v)) fun w=>zif w (zso (r,0,false)) (zix r s (if 0≤s then if s<((List.length (zup r s ((ym r s).1,true,(ym r s).C)):Nat):Int) then zso (zup (zup r s ((ym r s).1,true,(ym r s).C)) s ((ym (zup r s ((ym r s).1,true,(ym r s).C)) s).1,(ym (zup r s ((ym r s).1,true,(ym r s).C)) s).b,x.2),s,true) else none else none)))
theorem yIn:EV [yHU,yIe,yBT,yMp] lpN 159 Tryz.f159 yyQ ytS yKu ZX:=fun x=>by kernel_rfl
def yMq:QF:=⟨159,ZX,okN (n:=0) Tryz.func159 trivial yIn⟩
abbrev kM:Type:=yvF
def kN (k0:Int→Option R) (k1:Unit→Option R) (a:kM→Option R) (x:kM):Option R:=nz (zge x.c 0 (zix x.d x.c (zbd (jA (x.1,x.b)) fun r=>zle (zB x.d x.c) r (k0 x.c) (a (x.1,x.b,zde x.c,x.d,x.E)))) (k1 ()))
def y1R k0 k1:=zI (@kN R k0 k1) zY
def wz (x:yDM):Option Int:=nz (y1R (fun r=>zso r) (fun s=>zso (-1)) (x.c,x.D,zde x.1.z,x.1,x.b))
def ysd:List QF:=[yHD]
def ybs (t:yvF):St:=⟨.dead::vI t.1::vI t.2.1:: .box 3 0::dd 3 (vI t.2.2.1::dd 18 []),[(3,.box [z6 t.2.2.2.1,yA t.2.2.2.2])]⟩
def yoK:Gk kM:=fun κ=>kN (fun t=>κ none ⟨dd 6 (vI t::dd 19 []),[]⟩) (fun t=>κ (some 0) ⟨dd 26 [],[]⟩)
def yse:Lp:=lpC 2 (unG yvG ybs) @yoK lpN
theorem yCl:LF ysd yse 238 2 Tryz.f238 0 ybs @yoK fun t=>t:=fun R κ again t=>by kernel_rfl
theorem yCm:LK ysd yse 238 Tryz.f238 0:=lkN (u:=(unG yvG ybs)) (yn fun t=>by kernel_rfl) yCl
theorem yIo:EV ysd yse 238 Tryz.f238 yyR yDN [(.int .i64)] wz:=fun x=>by kernel_rfl
def yMr:QF:=⟨238,wz,okN (n:=1) Tryz.func238 ⟨yCm,trivial⟩ yIo⟩
def Yo (x:yEl):Option (List y8):=nz (zbd (yZ x.1) fun r=>zbd (JJ (r,x.2)) fun s=>zbd (W9 s) fun t=>zso t)
theorem yIp:EV [yu4,yMk,yHJ] lpN 240 Tryz.f240 yyS yEm [(.sl 91 yl)] Yo:=fun x=>by kernel_rfl
def yMs:QF:=⟨240,Yo,okN (n:=0) Tryz.func240 trivial yIp⟩
def zG (x:List y8):Option (List ya):=nz (zeq x.z 0 (zso ([]:List ya)) (zbd (YK x) fun r=>zso ([r]:List ya)))
theorem yIq:EV [yHG] lpN 243 Tryz.f243 yyT [(.sl 91 yl)] [(.sl 89 yq)] zG:=fun x=>by kernel_rfl
def yE1:QF:=⟨243,zG,okN (n:=0) Tryz.func243 trivial yIq⟩
abbrev y0s:Type:=yvH
def ko (k0:yDO→Option R) (k1:Qz9→Option R) (a:y0s→Option R) (x:y0s):Option R:=nz (zlt x.e x.d (zix x.c x.e (zan ((yi x.c x.e).1==x.1) ((yi x.c x.e).b==x.b) fun r=>zif r (k0 (true,zF5 (yi x.c x.e))) (a (zT4 x (zin x.e,zF5 x.F))))) (k1 x.F))
def y3N k0 k1:=zI (@ko R k0 k1) zY
def K5 (x:yKz):Option yir:=nz (y3N (fun r=>zso (zG5 r.2 r.1)) (fun s=>zso (0,0,0,0,0,false)) (x.b,x.C,x.1,x.1.z,0,0,0,0,0,0))
def ysf:List QF:=[]
def ybt (t:yvH):St:=⟨.dead::vI t.1::vI t.2.1::dd 3 (.box 6 0::dd 3 (y0M t.2.2.1::vI t.2.2.2.1::vI t.2.2.2.2.1::dd 16 [])),[(6,.box [vI t.2.2.2.2.2.1,vI t.2.2.2.2.2.2.1,vI t.2.2.2.2.2.2.2.1,vI t.2.2.2.2.2.2.2.2.1,vI t.2.2.2.2.2.2.2.2.2])]⟩
def yoL:Gk y0s:=fun κ=>ko (fun t=>κ none ⟨dd 6 (.box 6 0::vB t.1::dd 21 []),[(6,.box [vI t.2.1,vI t.2.2.1,vI t.2.2.2.1,vI t.2.2.2.2.1,vI t.2.2.2.2.2])]⟩) (fun t=>κ (some 0) ⟨dd 6 (.box 6 0::dd 22 []),[(6,.box [vI t.1,vI t.2.1,vI t.2.2.1,vI t.2.2.2.1,vI t.2.2.2.2])]⟩)
def ysg:Lp:=lpC 2 (unG yvI ybt) @yoL lpN
theorem yCn:LF ysf ysg 296 2 Tryz.f296 0 ybt @yoL fun t=>t:=fun R κ again t=>by kernel_rfl
theorem yCo:LK ysf ysg 296 Tryz.f296 0:=lkN (u:=(unG yvI ybt)) (yn fun t=>by kernel_rfl) yCn
theorem yIr:EV ysf ysg 296 Tryz.f296 yyU yKA yis K5:=fun x=>by kernel_rfl
def yMt:QF:=⟨296,K5,okN (n:=1) Tryz.func296 ⟨yCo,trivial⟩ yIr⟩
def kp (x:yEl):Option yKB:=nz (zbd (Y0 x.1) fun r=>zge (zde x.1.z) 0 (zix x.1 (zde x.1.z) (zbd (K5 (yu x.1 (zde x.1.z),x.b,x.c)) fun s=>zom s.F (zix x.1 (zde x.1.z) (zso (decide (((List.length (yu x.1 (zde x.1.z)):Nat):Int)<4)))) fun t=>zif t (zix x.1 (zde x.1.z) (zbd (JJ (yu x.1 (zde x.1.z),zF5 x.2)) fun u=>zix r (zde x.1.z) (zbd (Y9 (zup r (zde x.1.z) u)) fun v=>zif v (zso (zup r (zde x.1.z) u,true)) (zbd (Yo x) fun w=>zbd (zG w) fun p=>zom (decide (w.z>8)) (zbd (Y9 p) fun q=>zso (!q)) fun m=>zif m (zbd (Y0 x.1) fun n=>zso (n,false)) (zso (p,true)))))) (zgd r ([([x.2]:List y8)]:List ya) 24 (zbd (Y9 (r++([([x.2]:List y8)]:List ya))) fun o=>zif o (zso (r++([([x.2]:List y8)]:List ya),true)) (zbd (Yo x) fun e=>zbd (zG e) fun f=>zom (decide (e.z>8)) (zbd (Y9 f) fun g=>zso (!g)) fun h=>zif h (zbd (Y0 x.1) fun i=>zso (i,false)) (zso (f,true))))))) (zgd r ([([x.2]:List y8)]:List ya) 24 (zbd (Y9 (r++([([x.2]:List y8)]:List ya))) fun j=>zif j (zso (r++([([x.2]:List y8)]:List ya),true)) (zbd (Yo x) fun l=>zbd (zG l) fun y=>zom (decide (l.z>8)) (zbd (Y9 y) fun z=>zso (!z)) fun b=>zif b (zbd (Y0 x.1) fun c=>zso (c,false)) (zso (y,true))))))
theorem yIs:EV [yMj,yMm,yMs,yE1,yMt,yHJ] lpN 239 Tryz.f239 yyV yEm yKC kp:=fun x=>by kernel_rfl
def yOr:QF:=⟨239,kp,okN (n:=0) Tryz.func239 trivial yIs⟩
def YL (x:yET):Option y6M:=nz (zsl 0 x.c x.1.z (zbd (Yn (zcu x.1 0 x.c)) fun r=>zgd r x.e 8 (zsl (zad x.c x.d) x.1.z x.1.z (zgd (r++x.e) (zcu x.1 (zad x.c x.d) x.1.z) 8 (zsl 0 x.c x.b.z (zgd ([]:List y0) (zcu x.b 0 x.c) 24 (zgd (([]:List y0)++zcu x.b 0 x.c) x.F 24 (zsl (zad x.c x.d) x.b.z x.b.z (zgd (([]:List y0)++zcu x.b 0 x.c++x.F) (zcu x.b (zad x.c x.d) x.b.z) 24 (zso (r++x.e++zcu x.1 (zad x.c x.d) x.1.z,([]:List y0)++zcu x.b 0 x.c++x.F++zcu x.b (zad x.c x.d) x.b.z)))))))))))
theorem yIt:EV [yCa] lpN 241 Tryz.f241 yyW yEU kI YL:=fun x=>by kernel_rfl
def yMu:QF:=⟨241,YL,okN (n:=0) Tryz.func241 trivial yIt⟩
abbrev QJ:Type:=yeU ⊕ yeU
def QK (k0:y6M→Option R) (k1:y6M→Option R) (a:QJ→Option R):QJ→Option R
 | .inl x=>nz (zlt (zin x.1) x.C.z (zix x.C x.1 (zbd (yZ (yk x.C x.1)) fun r=>zix x.C (zin x.1) (zbd (yZ (yk x.C (zin x.1))) fun s=>zgd r s 40 (zle ((r++s).z) 6 (zix x.b x.1 (zbd (zG (r++s)) fun t=>zbd (YL (x.b,x.C,x.1,2,([zB x.b x.1]:List y9),([t]:List y0))) fun u=>a (Sum.inr (zin (-1),u.1,u.2)))) (a (Sum.inl (zin x.1,x.b,x.C))))))) (k0 x.2))
 | .inr x=>nz (zlt (zin x.1) x.C.z (zix x.C x.1 (zbd (yZ (yk x.C x.1)) fun r=>zix x.C (zin x.1) (zbd (yZ (yk x.C (zin x.1))) fun s=>zgd r s 40 (zle ((r++s).z) 6 (zix x.b x.1 (zbd (zG (r++s)) fun t=>zbd (YL (x.b,x.C,x.1,2,([zB x.b x.1]:List y9),([t]:List y0))) fun u=>a (Sum.inr (zin (-1),u.1,u.2)))) (a (Sum.inr (zin x.1,x.b,x.C))))))) (k1 x.2))
def y2N k0 k1:=zI (@QK R k0 k1) zY
def jG (x:y6M):Option y6M:=nz (y2N (fun r=>zso r) (fun s=>zso s) (Sum.inl (0,x.1,x.2)))
def ykf:List QF:=[yu4,yMu,yE1]
def y79 (t:yeU):St:=⟨.dead:: .box 1 0:: .box 2 0::vI t.1::dd 39 [],[(1,.box [z6 t.2.1,yA t.2.2]),(2,.box [.nils,.nils])]⟩
theorem ymM: ∀ s t,unG yl0 y79 s=some t→y79 t=s:=yn fun t=>by kernel_rfl
def y7a (t:yeU):St:=⟨.dead:: .box 1 0:: .box 2 0::vI t.1::dd 39 [],[(1,.box [.own 10000000,.own 10000001]),(2,.box [.nils,.nils]),(10000000,.root true 3 yg t.2.1),(10000001,.root true 88 yj t.2.2)]⟩
theorem ymN: ∀ s t,unG yl0 y7a s=some t→y7a t=s:=yn fun t=>by kernel_rfl
def y7b:(yeU ⊕ yeU)→St:=Sum.elim y79 y7a
def ybu (s:St):Option (yeU ⊕ yeU):=((unG yl0 y79 s).map Sum.inl).or (((unG yl0 y7a) s).map Sum.inr)
theorem ymO: ∀ s t,ybu s=some t→y7b t=s:=y5x ymM ymN
def yh4:Gk QJ:=fun κ=>QK (fun t=>κ (some 0) ⟨.dead:: .box 1 0:: .box 2 0::dd 40 [],[(1,.box [z6 t.1,yA t.2]),(2,.box [.nils,.nils])]⟩) (fun t=>κ (some 0) ⟨.dead:: .box 1 0:: .box 2 0::dd 40 [],[(1,.box [.own 10000000,.own 10000001]),(2,.box [.nils,.nils]),(10000000,.root true 3 yg t.1),(10000001,.root true 88 yj t.2)]⟩)
def ykg:Lp:=lpC 2 ybu @yh4 lpN
theorem ymP:LF ykf ykg 244 2 Tryz.f244 0 y7b @yh4 fun v:yeU=> .inl v:=fun R κ again v=>by kernel_rfl
theorem ymQ:LF ykf ykg 244 2 Tryz.f244 0 y7b @yh4 fun v:yeU=> .inr v:=fun R κ again v=>by kernel_rfl
theorem yCp:LF ykf ykg 244 2 Tryz.f244 0 y7b @yh4 fun t=>t:=(LC.sum ymP ymQ)
theorem yCq:LK ykf ykg 244 Tryz.f244 0:=lkN (u:=ybu) ymO yCp
theorem yIu:EV ykf ykg 244 Tryz.f244 yyX kI kI jG:=fun x=>by kernel_rfl
def yOs:QF:=⟨244,jG,okN (n:=1) Tryz.func244 ⟨yCq,trivial⟩ yIu⟩
def Zf (x:yKD):Option yKF:=nz (zbd (Zd (x.1,x.b)) fun r=>zom (!r) (zbd (K4 x.C) fun s=>zso (!s)) fun t=>zif t (zbd (zN (x.1,x.b)) fun u=>zso (u.1,u.2,false)) (zbd (wz (x.1,x.b,x.c,x.d)) fun v=>zbd (zN (x.1,x.b)) fun w=>zix w.2 v (zbd (kp (yk w.2 v,zF5 x.C)) fun p=>zif (!p.2) (zix w.2 v (zbd (Yo (yk w.2 v,zF5 x.C)) fun q=>zix q (zwr (Int.tdiv (zin q.z) 2)) (zix x.1 v (zbd (jA ((yi q (zwr (Int.tdiv (zin q.z) 2))).1,(yi q (zwr (Int.tdiv (zin q.z) 2))).b)) fun m=>zsl 0 (zwr (Int.tdiv (zin q.z) 2)) q.z (zbd (zG (zcu q 0 (zwr (Int.tdiv (zin q.z) 2)))) fun n=>zsl (zwr (Int.tdiv (zin q.z) 2)) q.z q.z (zbd (zG (zcu q (zwr (Int.tdiv (zin q.z) 2)) q.z)) fun o=>zbd (YL (w.1,w.2,v,1,([zB x.1 v,m]:List y9),([n,o]:List y0))) fun e=>zbd (jG e) fun f=>zbd (Zd f) fun g=>zif (!g) (zbd (zN (x.1,x.b)) fun h=>zso (h.1,h.2,false)) (zso (f.1,f.2,true)))))))) (zam (decide (v>0)) (zbd (yZ p.1) fun i=>zso (i.z==0)) fun j=>zif j (zbd (YL (w.1,w.2,v,1,([]:List y9),([]:List y0))) fun l=>zbd (jG l) fun y=>zbd (Zd y) fun z=>zif (!z) (zbd (zN (x.1,x.b)) fun b=>zso (b.1,b.2,false)) (zso (y.1,y.2,true))) (zix w.2 v (zbd (jG (w.1,zup w.2 v p.1)) fun c=>zbd (Zd c) fun d=>zif (!d) (zbd (zN (x.1,x.b)) fun R=>zso (R.1,R.2,false)) (zso (c.1,c.2,true))))))))
theorem yIv:EV [yMl,yMh,yIa,yu4,yMr,yOr,yMs,yMu,yHD,yE1,yOs] lpN 167 Tryz.f167 yyY yKE yKG Zf:=fun x=>by kernel_rfl
def yIw:QF:=⟨167,Zf,okN (n:=0) Tryz.func167 trivial yIv⟩
def ZY (x:ytR):Option (List y6):=nz (zbd (Y4 x.1) fun r=>zbd (jU x.1) fun s=>zom (!s) (zbd (yx (x.2,0,23)) fun t=>zso (!t)) fun u=>zom u (zix x.1 x.2 (zso (!((ym x.1 x.2).b)))) fun v=>zif v (zso r) (zix x.1 x.2 (zix r x.2 (zso (zup r x.2 (Int.tmod (zin ((ym x.1 x.2).1)) 1000,false,0))))))
theorem yIx:EV [q35,yHU,yIe] lpN 168 Tryz.f168 yyZ ytS [(.sl 85 yc)] ZY:=fun x=>by kernel_rfl
def yMv:QF:=⟨168,ZY,okN (n:=0) Tryz.func168 trivial yIx⟩
abbrev vj:Type:=yDP
def vk (k0:Qz9→Option R) (k1:yDO→Option R) (a:vj→Option R) (x:vj):Option R:=nz (zge x.c 0 (zix x.d x.c (zbd (K5 (yu x.d x.c,x.1,x.b)) fun r=>zif (!r.F) (a (x.1,x.b,zde x.c,zF6 x.D)) (zeq r.c 0 (k0 x.E) (k1 (true,r.1,r.b,r.c,r.d,r.e))))) (k0 x.E))
def y2O k0 k1:=zI (@vk R k0 k1) zY
def vm (x:ypL):Option yir:=nz (y2O (fun r=>zso (0,0,0,0,0,false)) (fun s=>zso (zG5 s.2 s.1)) (x.b,x.C,zde x.1.z,x.1,0,0,0,0,0))
def ysh:List QF:=[yMt]
def ybv (t:yDP):St:=⟨.dead::vI t.1::vI t.2.1:: .box 3 0::dd 2 (.box 6 0:: .dead::vI t.2.2.1::dd 28 []),[(3,.box [Zh t.2.2.2.1]),(6,.box [vI t.2.2.2.2.1,vI t.2.2.2.2.2.1,vI t.2.2.2.2.2.2.1,vI t.2.2.2.2.2.2.2.1,vI t.2.2.2.2.2.2.2.2])]⟩
def yoM:Gk vj:=fun κ=>vk (fun t=>κ (some 0) ⟨dd 6 (.box 6 0::dd 30 []),[(6,.box [vI t.1,vI t.2.1,vI t.2.2.1,vI t.2.2.2.1,vI t.2.2.2.2])]⟩) (fun t=>κ none ⟨dd 6 (.box 6 0::vB t.1::dd 29 []),[(6,.box [vI t.2.1,vI t.2.2.1,vI t.2.2.2.1,vI t.2.2.2.2.1,vI t.2.2.2.2.2])]⟩)
def ysi:Lp:=lpC 2 (unG yDQ ybv) @yoM lpN
theorem yCr:LF ysh ysi 290 2 Tryz.f290 0 ybv @yoM fun t=>t:=fun R κ again t=>by kernel_rfl
theorem yCs:LK ysh ysi 290 Tryz.f290 0:=lkN (u:=(unG yDQ ybv)) (yn fun t=>by kernel_rfl) yCr
theorem yIy:EV ysh ysi 290 Tryz.f290 yz0 yDR yis vm:=fun x=>by kernel_rfl
def yOt:QF:=⟨290,vm,okN (n:=1) Tryz.func290 ⟨yCs,trivial⟩ yIy⟩
def JL (x:yDM):Option yir:=nz (zbd (wz x) fun r=>zbd (yx (r,0,zde x.b.z)) fun s=>zif (!s) (zso (0,0,0,0,0,false)) (zix x.b r (zbd (vm (yk x.b r,x.c,x.D)) fun t=>zso t)))
theorem yIz:EV [q35,yMr,yOt] lpN 231 Tryz.f231 yz1 yDN yis JL:=fun x=>by kernel_rfl
def yIA:QF:=⟨231,JL,okN (n:=0) Tryz.func231 trivial yIz⟩
def z3 (x:yu0):Option yl1:=nz (zbd (JL (x.1,x.b,x.g,x.h)) fun r=>zbd (Zf (x.1,x.b,x.G)) fun s=>zan s.C r.F fun t=>zan t (r.c==1) fun u=>zif u (zbd (ZY (x.d,r.d)) fun v=>zso (s.C,s.1,s.b,x.c,v,x.e,x.f)) (zso (s.C,s.1,s.b,x.c,x.d,x.e,x.f)))
theorem yIB:EV [yIw,yMv,yIA] lpN 160 Tryz.f160 yz2 yu1 ytU z3:=fun x=>by kernel_rfl
def yIC:QF:=⟨160,z3,okN (n:=0) Tryz.func160 trivial yIB⟩
def VZ (x:yKH):Option y6o:=nz (zbd (Zr (zT8 x true)) fun r=>zam (r.2==0) (zbd (Ze x.I) fun s=>zso (!s)) fun t=>zif t (zne 4 0 (zbd (ye (x.1,x.b,x.c,x.d,x.e,x.f)) fun u=>zso (zG6 u 4)) (zbd (ye (x.1,x.b,x.c,x.d,x.e,x.f)) fun v=>zbd (ZX (x.d,x.I)) fun w=>zif (!w.C) (zbd (ye (x.1,x.b,x.c,x.d,x.e,x.f)) fun p=>zso (zG6 p 6)) (zix x.e r.1 (zix w.1 w.b (zbd (z3 (zT3 v (w.1,v.e,v.F,x.h,(yd x.e r.1).b,1,w.b,(ym w.1 w.b).1))) fun q=>zbd (zi (zT6 x (zG6 q.2 q.1))) fun m=>zso m))))) (zne r.2 0 (zbd (ye (x.1,x.b,x.c,x.d,x.e,x.f)) fun n=>zso (zG6 n r.2)) (zbd (ye (x.1,x.b,x.c,x.d,x.e,x.f)) fun o=>zbd (ZX (x.d,x.I)) fun e=>zif (!e.C) (zbd (ye (x.1,x.b,x.c,x.d,x.e,x.f)) fun f=>zso (zG6 f 6)) (zix x.e r.1 (zix e.1 e.b (zbd (z3 (zT3 o (e.1,o.e,o.F,x.h,(yd x.e r.1).b,1,e.b,(ym e.1 e.b).1))) fun g=>zbd (zi (zT6 x (zG6 g.2 g.1))) fun h=>zso h))))))
theorem yOu:EV [q71,yBT,yu6,yIl,yMq,yIC] lpN 78 Tryz.f78 yLx yKI y6p VZ:=fun x=>by kernel_rfl
def q78:QF:=⟨78,VZ,okN (n:=0) Tryz.func78 trivial yOu⟩
abbrev vn:Type:=yvJ
def vo (k0:List y9→Option R) (a:vn→Option R) (x:vn):Option R:=nz (zlt x.d x.c (zbd (YW (x.1,x.b)) fun r=>zlt r 0 (k0 x.E) (zgd x.E ([x.b]:List y9) 8 (zix x.1 r (a (x.1,(yD x.1 r).2,x.c,zin x.d,x.E++([x.b]:List y9)))))) (k0 x.E))
def y2P k0:=zI (@vo R k0) zY
def WK (x:yjh):Option (List y9):=nz (y2P (fun r=>zso r) (x.1,x.2,zin x.1.z,0,([]:List y9)))
def ysj:List QF:=[yu5]
def ybw (t:yvJ):St:=⟨zl t.1::vI t.2.1::dd 3 (.own 10000000::dd 4 (vI t.2.2.1::vI t.2.2.2.1::dd 17 [])),[(10000000,.root true 3 yg t.2.2.2.2)]⟩
def yoN:Gk vn:=fun κ=>vo (fun t=>κ (some 0) ⟨dd 5 (.own 10000000::dd 23 []),[(10000000,.root true 3 yg t)]⟩)
def ysk:Lp:=lpC 3 (unG yvK ybw) @yoN lpN
theorem yCt:LF ysj ysk 291 3 Tryz.f291 0 ybw @yoN fun t=>t:=fun R κ again t=>by kernel_rfl
theorem yCu:LK ysj ysk 291 Tryz.f291 0:=lkN (u:=(unG yvK ybw)) (yn fun t=>by kernel_rfl) yCt
theorem yID:EV ysj ysk 291 Tryz.f291 yz3 yji [(.sl 3 yg)] WK:=fun x=>by kernel_rfl
def yMw:QF:=⟨291,WK,okN (n:=1) Tryz.func291 ⟨yCu,trivial⟩ yID⟩
abbrev QL:Type:=yvL
def Wh (k0:List y8→Option R) (a:QL→Option R) (x:QL):Option R:=nz (zlt x.c x.b (zix x.E x.c (zif ((yi x.E x.c).1==x.1) (zgd x.d ([zF5 (yi x.E x.c)]:List y8) 40 (a (x.1,x.b,zin x.c,x.d++([zF5 (yi x.E x.c)]:List y8),x.E))) (a (x.1,x.b,zin x.c,x.d,x.E)))) (k0 x.d))
def y2Q k0:=zI (@Wh R k0) zY
def vp (x:ytO):Option (List y8):=nz (zbd (zz (x.1,x.b)) fun r=>y2Q (fun s=>zso s) (x.C,r.z,0,([]:List y8),r))
def ysl:List QF:=[yC4]
def ybx (t:yvL):St:=⟨.dead::vI t.1::dd 3 (.own 10000000::dd 4 (.own 10000001::vI t.2.1::vI t.2.2.1::dd 13 [])),[(10000000,.root true 91 yl t.2.2.2.1),(10000001,.root true 91 yl t.2.2.2.2)]⟩
def yoO:Gk QL:=fun κ=>Wh (fun t=>κ (some 0) ⟨dd 5 (.own 10000000::dd 20 []),[(10000000,.root true 91 yl t)]⟩)
def ysm:Lp:=lpC 3 (unG yvM ybx) @yoO lpN
theorem yCv:LF ysl ysm 327 3 Tryz.f327 0 ybx @yoO fun t=>t:=fun R κ again t=>by kernel_rfl
theorem yCw:LK ysl ysm 327 Tryz.f327 0:=lkN (u:=(unG yvM ybx)) (yn fun t=>by kernel_rfl) yCv
theorem yIE:EV ysl ysm 327 Tryz.f327 yz4 ytP [(.sl 91 yl)] vp:=fun x=>by kernel_rfl
def yOv:QF:=⟨327,vp,okN (n:=1) Tryz.func327 ⟨yCw,trivial⟩ yIE⟩
abbrev WZ:Type:=yvN
def Zz (k0:Int→Option R) (k1:Unit→Option R) (a:WZ→Option R) (x:WZ):Option R:=nz (zlt x.D x.c (zix x.1 x.D (zif (x.b==zB x.1 x.D) (k0 x.D) (a (zT3 x (zin x.D))))) (k1 ()))
def qE k0 k1:=zI (@Zz R k0 k1) zY
def jH (x:yEn):Option Int:=nz (qE (fun r=>zso r) (fun s=>zso (-1)) (x.1,x.2,x.1.z,0))
def ysn:List QF:=[]
def yby (t:yvN):St:=⟨z6 t.1::vI t.2.1::dd 5 (vI t.2.2.1::vI t.2.2.2::dd 10 []),[]⟩
def yoP:Gk WZ:=fun κ=>Zz (fun t=>κ none ⟨dd 4 (vI t::dd 14 []),[]⟩) (fun t=>κ (some 0) ⟨dd 19 [],[]⟩)
def yso:Lp:=lpC 2 (unG yvO yby) @yoP lpN
theorem yCx:LF ysn yso 346 2 Tryz.f346 0 yby @yoP fun t=>t:=fun R κ again t=>by kernel_rfl
theorem yCy:LK ysn yso 346 Tryz.f346 0:=lkN (u:=(unG yvO yby)) (yn fun t=>by kernel_rfl) yCx
theorem yIF:EV ysn yso 346 Tryz.f346 yz5 yEo [(.int .i64)] jH:=fun x=>by kernel_rfl
def yOw:QF:=⟨346,jH,okN (n:=1) Tryz.func346 ⟨yCy,trivial⟩ yIF⟩
def Zi (x:yEn):Option Bool:=nz (zbd (jH x) fun r=>zso (decide (r≥0)))
theorem yIG:EV [yOw] lpN 328 Tryz.f328 yz6 yEo [.bool] Zi:=fun x=>by kernel_rfl
def yOx:QF:=⟨328,Zi,okN (n:=0) Tryz.func328 trivial yIG⟩
abbrev QM:Type:=yvP
def Wi (k0:yKR→Option R) (a:QM→Option R) (x:QM):Option R:=nz (zlt x.d x.c (zix x.O x.d (zbd (Zi (x.1,(yi x.O x.d).b)) fun r=>zam r (zor (!x.b) (decide ((yi x.O x.d).b>x.k)) fun s=>zso s) fun t=>zif t (a (x.1,true,x.c,zin x.d,zT5 x.E (zG5 (yi x.O x.d) x.O))) (a (zT3 x (zin x.d,yq9 x.E))))) (k0 (x.b,x.e,x.f,x.g,x.h,x.i,x.j,x.k,x.l,x.m,x.n)))
def y2R k0:=zI (@Wi R k0) zY
def JM (x:yKS):Option yir:=nz (zbd (vp (x.1,x.b,x.c)) fun r=>y2R (fun s=>zso (zG5 s.G s.1)) (x.D,false,r.z,0,0,0,0,0,0,0,0,0,0,0,r))
def ysp:List QF:=[yOv,yOx]
def ybz (t:yvP):St:=⟨dd 2 (z6 t.1::dd 3 (.box 6 0:: .dead:: .box 8 0::vB t.2.1::dd 5 (.own 10000000::vI t.2.2.1::vI t.2.2.2.1::dd 22 []))),[(6,.box [vI t.2.2.2.2.1,vI t.2.2.2.2.2.1,vI t.2.2.2.2.2.2.1,vI t.2.2.2.2.2.2.2.1,vI t.2.2.2.2.2.2.2.2.1]),(8,.box [vI t.2.2.2.2.2.2.2.2.2.1,vI t.2.2.2.2.2.2.2.2.2.2.1,vI t.2.2.2.2.2.2.2.2.2.2.2.1,vI t.2.2.2.2.2.2.2.2.2.2.2.2.1,vI t.2.2.2.2.2.2.2.2.2.2.2.2.2.1]),(10000000,.root true 91 yl t.2.2.2.2.2.2.2.2.2.2.2.2.2.2)]⟩
def yoQ:Gk QM:=fun κ=>Wi (fun t=>κ (some 0) ⟨dd 6 (.box 6 0:: .dead:: .box 8 0::vB t.1::dd 30 []),[(6,.box [vI t.2.1,vI t.2.2.1,vI t.2.2.2.1,vI t.2.2.2.2.1,vI t.2.2.2.2.2.1]),(8,.box [vI t.2.2.2.2.2.2.1,vI t.2.2.2.2.2.2.2.1,vI t.2.2.2.2.2.2.2.2.1,vI t.2.2.2.2.2.2.2.2.2.1,vI t.2.2.2.2.2.2.2.2.2.2])]⟩)
def ysq:Lp:=lpC 3 (unG yvQ ybz) @yoQ lpN
theorem yCz:LF ysp ysq 292 3 Tryz.f292 0 ybz @yoQ fun t=>t:=fun R κ again t=>by kernel_rfl
theorem yCA:LK ysp ysq 292 Tryz.f292 0:=lkN (u:=(unG yvQ ybz)) (yn fun t=>by kernel_rfl) yCz
theorem yIH:EV ysp ysq 292 Tryz.f292 yz7 yKT yis JM:=fun x=>by kernel_rfl
def yMx:QF:=⟨292,JM,okN (n:=1) Tryz.func292 ⟨yCA,trivial⟩ yIH⟩
def ji (x:yDS):Option yir:=nz (zbd (WK (x.c,x.E)) fun r=>zsl (if r.z<1 then r.z else 1) r.z r.z (zbd (JM (x.1,x.b,x.d,zcu r (if r.z<1 then r.z else 1) r.z)) fun s=>zso s))
theorem yII:EV [yMw,yMx] lpN 232 Tryz.f232 yz8 yDT yis ji:=fun x=>by kernel_rfl
def yMy:QF:=⟨232,ji,okN (n:=0) Tryz.func232 trivial yII⟩
def YA (x:yEp):Option yl1:=nz (zix x.e x.g (zbd (ji (zT3 x (x.H,(yd x.e x.g).b))) fun r=>zan r.F (r.c==1) fun s=>zif s (zbd (z3 (zT6 x (x.H,(yd x.e x.g).b,2,0,0))) fun t=>zso t) (zbd (JL (x.1,x.b,x.H,(yd x.e x.g).b)) fun u=>zif u.F (zbd (z3 (zT6 x (x.H,(yd x.e x.g).b,0,0,0))) fun v=>zso v) (zso (true,x.1,x.b,x.c,x.d,x.e,x.f)))))
theorem yIJ:EV [yIC,yIA,yMy] lpN 161 Tryz.f161 yz9 yEq ytU YA:=fun x=>by kernel_rfl
def yMz:QF:=⟨161,YA,okN (n:=0) Tryz.func161 trivial yIJ⟩
def kq (x:ypJ):Option y6o:=nz (zbd (Zr (zG8 x true)) fun r=>zne r.2 0 (zbd (ye (x.1,x.b,x.c,x.d,x.e,x.f)) fun s=>zso (zG6 s r.2)) (zbd (ye (x.1,x.b,x.c,x.d,x.e,x.f)) fun t=>zbd (YA (zG6 t (r.1,x.H))) fun u=>zbd (zi (zT6 x (zG6 u.2 u.1))) fun v=>zso v))
theorem yOy:EV [q71,yu6,yIl,yMz] lpN 79 Tryz.f79 yLy ypK y6p kq:=fun x=>by kernel_rfl
def q79:QF:=⟨79,kq,okN (n:=0) Tryz.func79 trivial yOy⟩
abbrev vq:Type:=yjr ⊕ yjs
def Wj (k0:yEV→Option R) (k1:yEW→Option R) (k2:yEX→Option R) (a:vq→Option R):vq→Option R
 | .inl x=>nz (zge x.c x.1 (zbd (YA (zG5 x.L (x.k,x.b,x.c))) fun r=>zif (!r.1) (zbd (ye (x.d,x.e,x.f,x.g,x.h,x.i)) fun s=>k0 (x.1,6,x.b,zT6 x.D (s.F,zT4 r.2 (r.G,zT5 s r.f)))) (a (Sum.inr (x.1,x.b,zde x.c,zT7 x.D (zT4 r.2 (r.G,r.f)))))) (k1 (x.1,x.b,x.D)))
 | .inr x=>nz (zge x.c x.1 (zbd (YA (zT4 x.K (x.P,x.o,x.b,x.c))) fun r=>zif (!r.1) (zbd (ye (x.d,x.e,x.f,x.g,x.h,x.i)) fun s=>k0 (x.1,6,x.b,zT6 x.D (s.F,zT4 r.2 (r.G,zT5 s r.f)))) (a (Sum.inr (x.1,x.b,zde x.c,zT7 x.D (zT4 r.2 (r.G,r.f)))))) (k2 (x.1,x.b,x.D)))
def vr k0 k1 k2:=zI (@Wj R k0 k1 k2) zY
def vt (x:ypJ):Option y6o:=nz (zbd (Zr (zT7 x (0,true))) fun r=>zam (r.2==0) (zbd (yx (x.H,1,12)) fun s=>zso (!s)) fun t=>zif t (zne 4 0 (zbd (ye (x.1,x.b,x.c,x.d,x.e,x.f)) fun u=>zso (zG6 u 4)) (zbd (ye (x.1,x.b,x.c,x.d,x.e,x.f)) fun v=>zix x.e r.1 (vr (fun w=>zso (zT5 w.P (w.j,w.b))) (fun p=>zix p.O p.b (zbd (zi (zT6 p.C (zT4 p.K (zup p.O p.b ((yd p.O p.b).1,(yd p.O p.b).b,p.1,(yd p.O p.b).D),p.j,true)))) fun q=>zso q)) (fun m=>zix m.O m.b (zbd (zi (zT6 m.C (zT4 m.J (zup m.O m.b ((yd m.O m.b).1,(yd m.O m.b).b,m.1,(yd m.O m.b).D),m.n,true)))) fun n=>zso n)) (Sum.inl (x.H,r.1,zde ((yd x.e r.1).c),zT6 x (0,v.F,v.1,v.b,v.c,v.d,v.e)))))) (zne r.2 0 (zbd (ye (x.1,x.b,x.c,x.d,x.e,x.f)) fun o=>zso (zG6 o r.2)) (zbd (ye (x.1,x.b,x.c,x.d,x.e,x.f)) fun e=>zix x.e r.1 (vr (fun f=>zso (zT5 f.P (f.j,f.b))) (fun g=>zix g.O g.b (zbd (zi (zT6 g.C (zT4 g.K (zup g.O g.b ((yd g.O g.b).1,(yd g.O g.b).b,g.1,(yd g.O g.b).D),g.j,true)))) fun h=>zso h)) (fun i=>zix i.O i.b (zbd (zi (zT6 i.C (zT4 i.J (zup i.O i.b ((yd i.O i.b).1,(yd i.O i.b).b,i.1,(yd i.O i.b).D),i.n,true)))) fun j=>zso j)) (Sum.inl (x.H,r.1,zde ((yd x.e r.1).c),zT6 x (0,e.F,e.1,e.b,e.c,e.d,e.e)))))))
def yCB:List QF:=[q35,q71,yu6,yIl,yMz]
def ybA (t:yjr):St:=⟨dd 2 (vI t.1:: .box 3 0::dd 2 (.box 6 0:: .dead::vI t.2.1:: .dead:: .box 10 0::vI t.2.2.1::dd 49 [])),[(3,.box [z6 t.2.2.2.1,yA t.2.2.2.2.1,zl t.2.2.2.2.2.1,yU t.2.2.2.2.2.2.1,Y6 t.2.2.2.2.2.2.2.1,vI t.2.2.2.2.2.2.2.2.1]),(6,.box [.nils,.nils,.nils,.nils,.nils,vI t.2.2.2.2.2.2.2.2.2.1]),(10,.box [.own 10000000,.own 10000001,.own 10000002,.own 10000003,.own 10000004,vI t.2.2.2.2.2.2.2.2.2.2.1]),(10000000,.root true 3 yg t.2.2.2.2.2.2.2.2.2.2.2.1),(10000001,.root true 88 yj t.2.2.2.2.2.2.2.2.2.2.2.2.1),(10000002,.root true 79 yh t.2.2.2.2.2.2.2.2.2.2.2.2.2.1),(10000003,.root true 85 yc t.2.2.2.2.2.2.2.2.2.2.2.2.2.2.1),(10000004,.root true 81 yt t.2.2.2.2.2.2.2.2.2.2.2.2.2.2.2)]⟩
theorem ysr: ∀ s t,unG yvR ybA s=some t→ybA t=s:=yn fun t=>by kernel_rfl
def ybB (t:yjs):St:=⟨dd 2 (vI t.1:: .box 3 0::dd 2 (.box 6 0:: .dead::vI t.2.1:: .dead:: .box 10 0::vI t.2.2.1::dd 49 [])),[(3,.box [z6 t.2.2.2.1,yA t.2.2.2.2.1,zl t.2.2.2.2.2.1,yU t.2.2.2.2.2.2.1,Y6 t.2.2.2.2.2.2.2.1,vI t.2.2.2.2.2.2.2.2.1]),(6,.box [.nils,.nils,.nils,.nils,.nils,vI t.2.2.2.2.2.2.2.2.2.1]),(10,.box [z6 t.2.2.2.2.2.2.2.2.2.2.1,yA t.2.2.2.2.2.2.2.2.2.2.2.1,zl t.2.2.2.2.2.2.2.2.2.2.2.2.1,yU t.2.2.2.2.2.2.2.2.2.2.2.2.2.1,.own 10000000,vI t.2.2.2.2.2.2.2.2.2.2.2.2.2.2.1]),(10000000,.root true 81 yt t.2.2.2.2.2.2.2.2.2.2.2.2.2.2.2)]⟩
theorem yss: ∀ s t,unG yvS ybB s=some t→ybB t=s:=yn fun t=>by kernel_rfl
def ybC:(yjr ⊕ yjs)→St:=Sum.elim ybA ybB
def yfA (s:St):Option (yjr ⊕ yjs):=((unG yvR ybA s).map Sum.inl).or (((unG yvS ybB) s).map Sum.inr)
theorem yst: ∀ s t,yfA s=some t→ybC t=s:=y5x ysr yss
def ymR:Gk vq:=fun κ=>Wj (fun t=>κ none ⟨dd 2 (vI t.1:: .box 3 0::dd 2 (.box 6 0::vI t.2.1::vI t.2.2.1:: .dead:: .box 10 0::dd 50 [])),[(3,.box [z6 t.2.2.2.1,yA t.2.2.2.2.1,zl t.2.2.2.2.2.1,yU t.2.2.2.2.2.2.1,Y6 t.2.2.2.2.2.2.2.1,vI t.2.2.2.2.2.2.2.2.1]),(6,.box [.own 10000000,.own 10000001,.own 10000002,.own 10000003,.own 10000004,vI t.2.2.2.2.2.2.2.2.2.1]),(10,.box [z6 t.2.2.2.2.2.2.2.2.2.2.1,yA t.2.2.2.2.2.2.2.2.2.2.2.1,zl t.2.2.2.2.2.2.2.2.2.2.2.2.1,yU t.2.2.2.2.2.2.2.2.2.2.2.2.2.1,.own 10000005,vI t.2.2.2.2.2.2.2.2.2.2.2.2.2.2.1]),(10000000,.root true 3 yg t.2.2.2.2.2.2.2.2.2.2.2.2.2.2.2.1),(10000001,.root true 88 yj t.2.2.2.2.2.2.2.2.2.2.2.2.2.2.2.2.1),(10000002,.root true 79 yh t.2.2.2.2.2.2.2.2.2.2.2.2.2.2.2.2.2.1),(10000003,.root true 85 yc t.2.2.2.2.2.2.2.2.2.2.2.2.2.2.2.2.2.2.1),(10000004,.root true 81 yt t.2.2.2.2.2.2.2.2.2.2.2.2.2.2.2.2.2.2.2.1),(10000005,.root true 81 yt t.2.2.2.2.2.2.2.2.2.2.2.2.2.2.2.2.2.2.2.2)]⟩) (fun t=>κ (some 0) ⟨dd 2 (vI t.1:: .box 3 0::dd 2 (.box 6 0:: .dead::vI t.2.1:: .dead:: .box 10 0::dd 50 [])),[(3,.box [z6 t.2.2.1,yA t.2.2.2.1,zl t.2.2.2.2.1,yU t.2.2.2.2.2.1,Y6 t.2.2.2.2.2.2.1,vI t.2.2.2.2.2.2.2.1]),(6,.box [.nils,.nils,.nils,.nils,.nils,vI t.2.2.2.2.2.2.2.2.1]),(10,.box [.own 10000000,.own 10000001,.own 10000002,.own 10000003,.own 10000004,vI t.2.2.2.2.2.2.2.2.2.1]),(10000000,.root true 3 yg t.2.2.2.2.2.2.2.2.2.2.1),(10000001,.root true 88 yj t.2.2.2.2.2.2.2.2.2.2.2.1),(10000002,.root true 79 yh t.2.2.2.2.2.2.2.2.2.2.2.2.1),(10000003,.root true 85 yc t.2.2.2.2.2.2.2.2.2.2.2.2.2.1),(10000004,.root true 81 yt t.2.2.2.2.2.2.2.2.2.2.2.2.2.2)]⟩) (fun t=>κ (some 0) ⟨dd 2 (vI t.1:: .box 3 0::dd 2 (.box 6 0:: .dead::vI t.2.1:: .dead:: .box 10 0::dd 50 [])),[(3,.box [z6 t.2.2.1,yA t.2.2.2.1,zl t.2.2.2.2.1,yU t.2.2.2.2.2.1,Y6 t.2.2.2.2.2.2.1,vI t.2.2.2.2.2.2.2.1]),(6,.box [.nils,.nils,.nils,.nils,.nils,vI t.2.2.2.2.2.2.2.2.1]),(10,.box [z6 t.2.2.2.2.2.2.2.2.2.1,yA t.2.2.2.2.2.2.2.2.2.2.1,zl t.2.2.2.2.2.2.2.2.2.2.2.1,yU t.2.2.2.2.2.2.2.2.2.2.2.2.1,.own 10000000,vI t.2.2.2.2.2.2.2.2.2.2.2.2.2.1]),(10000000,.root true 81 yt t.2.2.2.2.2.2.2.2.2.2.2.2.2.2)]⟩)
def yCC:Lp:=lpC 8 yfA @ymR lpN
theorem ysu:LF yCB yCC 80 8 Tryz.f80 0 ybC @ymR fun v:yjr=> .inl v:=fun R κ again v=>by kernel_rfl
theorem ysv:LF yCB yCC 80 8 Tryz.f80 0 ybC @ymR fun v:yjs=> .inr v:=fun R κ again v=>by kernel_rfl
theorem yIK:LF yCB yCC 80 8 Tryz.f80 0 ybC @ymR fun t=>t:=(LC.sum ysu ysv)
theorem yIL:LK yCB yCC 80 Tryz.f80 0:=lkN (u:=yfA) yst yIK
theorem yOz:EV yCB yCC 80 Tryz.f80 yLz ypK y6p vt:=fun x=>by kernel_rfl
def q80:QF:=⟨80,vt,okN (n:=1) Tryz.func80 ⟨yIL,trivial⟩ yOz⟩
def qO (x:yEY):Option ylT:=nz (zso (x.b==x.E,x.E))
theorem yIM:EV [] lpN 294 Tryz.f294 yza yEZ ypV qO:=fun x=>by kernel_rfl
def yOA:QF:=⟨294,qO,okN (n:=0) Tryz.func294 trivial yIM⟩
abbrev Yp:Type:=yvT
def zj (k0:yiq→Option R) (k1:Int→Option R) (a:Yp→Option R) (x:Yp):Option R:=nz (zlt x.c x.b (zix x.1 x.c (zbd (qO (zG4 (yd x.1 x.c) x.D)) fun r=>zif r.1 (k0 (x.c,r.2)) (a (x.1,x.b,zin x.c,r.2)))) (k1 x.D))
def ZL k0 k1:=zI (@zj R k0 k1) zY
def zw (x:yvV):Option yiq:=nz (ZL (fun r=>zso r) (fun s=>zso (-1,s)) (x.1,x.1.z,0,x.2))
def ybD:List QF:=[yOA]
def y4b (t:yvT):St:=⟨Y6 t.1:: .clo 294 901::dd 5 (vI t.2.1::vI t.2.2.1::dd 10 []),[(901,.box [vI t.2.2.2])]⟩
def ydw:Gk Yp:=fun κ=>zj (fun t=>κ none ⟨.dead:: .clo 294 901::dd 2 (vI t.1::dd 14 []),[(901,.box [vI t.2])]⟩) (fun t=>κ (some 0) ⟨.dead:: .clo 294 901::dd 17 [],[(901,.box [vI t])]⟩)
def ybE:Lp:=lpC 2 (unG yvU y4b) @ydw lpN
theorem ykh:LF ybD ybE 100005 2 Tryz.f228 0 y4b @ydw fun t=>t:=fun R κ again t=>by kernel_rfl
theorem yki:LK ybD ybE 100005 Tryz.f228 0:=lkN (u:=(unG yvU y4b)) (yn fun t=>by kernel_rfl) ykh
theorem ymS:EV ybD ybE 100005 Tryz.f228 ygP yvW ylM zw:=fun x=>by kernel_rfl
def ysw:QF:=⟨100005,zw,okN (n:=1) Tryz.func228 ⟨yki,trivial⟩ ymS⟩
def zF (x:yvV):Option ylT:=nz (zbd (zw x) fun r=>zso (decide (r.1≥0),r.2))
theorem ymT:EV [ysw] lpN 100004 Tryz.f206 ygQ yvW ypV zF:=fun x=>by kernel_rfl
def ysx:QF:=⟨100004,zF,okN (n:=0) Tryz.func206 trivial ymT⟩
def Vh (x:y6o):Option Bool:=nz (zbd (zF (x.e,x.G)) fun r=>zso (!r.1))
theorem yIN:EV [ysx] lpN 234 Tryz.f234 yzb y6p [.bool] Vh:=fun x=>by kernel_rfl
def yMA:QF:=⟨234,Vh,okN (n:=0) Tryz.func234 trivial yIN⟩
def QN (x:yDS):Option yir:=nz (zbd (WK (x.c,x.E)) fun r=>zbd (JM (x.1,x.b,x.d,r)) fun s=>zso s)
theorem yIO:EV [yMw,yMx] lpN 347 Tryz.f347 yzc yDT yis QN:=fun x=>by kernel_rfl
def yOB:QF:=⟨347,QN,okN (n:=0) Tryz.func347 trivial yIO⟩
def QO (x:yKW):Option Bool:=nz (zbd (QN (zT4 x x.I)) fun r=>zan r.F (r.b==x.e) fun s=>zso s)
theorem yIP:EV [yOB] lpN 329 Tryz.f329 yzd yKX [.bool] QO:=fun x=>by kernel_rfl
def yOC:QF:=⟨329,QO,okN (n:=0) Tryz.func329 trivial yIP⟩
abbrev vu:Type:=yvX
def jI (k0:Bool→Option R) (k1:Unit→Option R) (a:vu→Option R) (x:vu):Option R:=nz (zlt x.c x.b (zix x.1 x.c (zam (decide ((yd x.1 x.c).c>x.j)) (zbd (QO (zT3 x.D (zG5 x.J ((yd x.1 x.c).b)))) fun r=>zso r) fun s=>zif s (k0 true) (a (x.1,x.b,zin x.c,yq9 x.D)))) (k1 ()))
def y0b k0 k1:=zI (@jI R k0 k1) zY
def w9 (x:yu0):Option Bool:=nz (y0b (fun r=>zso r) (fun s=>zso false) (x.e,x.e.z,0,yq9 x))
def ysy:List QF:=[yOC]
def ybF (t:yvX):St:=⟨dd 2 (.box 2 0:: .box 3 0::dd 4 (Y6 t.1::vI t.2.1::vI t.2.2.1::dd 19 [])),[(2,.box [z6 t.2.2.2.1,yA t.2.2.2.2.1,zl t.2.2.2.2.2.1,yU t.2.2.2.2.2.2.1,Y6 t.2.2.2.2.2.2.2.1,vI t.2.2.2.2.2.2.2.2.1]),(3,.box [vI t.2.2.2.2.2.2.2.2.2.1,vI t.2.2.2.2.2.2.2.2.2.2.1,vI t.2.2.2.2.2.2.2.2.2.2.2.1,vI t.2.2.2.2.2.2.2.2.2.2.2.2.1,vI t.2.2.2.2.2.2.2.2.2.2.2.2.2])]⟩
def yoR:Gk vu:=fun κ=>jI (fun t=>κ none ⟨dd 4 (vB t::dd 25 []),[]⟩) (fun t=>κ (some 0) ⟨dd 30 [],[]⟩)
def ysz:Lp:=lpC 2 (unG yvY ybF) @yoR lpN
theorem yCD:LF ysy ysz 293 2 Tryz.f293 0 ybF @yoR fun t=>t:=fun R κ again t=>by kernel_rfl
theorem yCE:LK ysy ysz 293 Tryz.f293 0:=lkN (u:=(unG yvY ybF)) (yn fun t=>by kernel_rfl) yCD
theorem yIQ:EV ysy ysz 293 Tryz.f293 yze yu1 [.bool] w9:=fun x=>by kernel_rfl
def yOD:QF:=⟨293,w9,okN (n:=1) Tryz.func293 ⟨yCE,trivial⟩ yIQ⟩
def kr (x:yL1):Option Bool:=nz (zeq x.g 1 (zbd (w9 (zT6 x x.H)) fun r=>zso (!r)) (zeq x.g 2 (zbd (ji (zT3 x (x.h,x.i))) fun s=>zan (x.j==2) (!s.F) fun t=>zso t) (zbd (jD (x.c,x.i)) fun u=>zbd (Vh (zT6 x x.i)) fun v=>zor (!v) (u.z !=1) fun w=>zif w (zso false) (zix u 0 (zbd (JL (x.1,x.b,x.h,zB u 0)) fun p=>zso (!p.F))))))
theorem yIR:EV [yDZ,yIA,yMy,yMA,yOD] lpN 233 Tryz.f233 yzf yL2 [.bool] kr:=fun x=>by kernel_rfl
def yOE:QF:=⟨233,kr,okN (n:=0) Tryz.func233 trivial yIR⟩
abbrev qs:Type:=yvZ
def wa (k0:Bool→Option R) (k1:Unit→Option R) (a:qs→Option R) (x:qs):Option R:=nz (zlt x.D x.c (zix x.b x.D (zif ((yi x.b x.D).b==x.1) (k0 true) (a (zT3 x (zin x.D))))) (k1 ()))
def y1S k0 k1:=zI (@wa R k0 k1) zY
def kt (x:yuq):Option Bool:=nz (y1S (fun r=>zso r) (fun s=>zso false) (x.2,x.1,x.1.z,0))
def ysA:List QF:=[]
def ybG (t:yvZ):St:=⟨.dead::vI t.1::dd 5 (y0M t.2.1::vI t.2.2.1::vI t.2.2.2::dd 8 []),[]⟩
def yoS:Gk qs:=fun κ=>wa (fun t=>κ none ⟨dd 4 (vB t::dd 13 []),[]⟩) (fun t=>κ (some 0) ⟨dd 18 [],[]⟩)
def ysB:Lp:=lpC 2 (unG yw0 ybG) @yoS lpN
theorem yCF:LF ysA ysB 235 2 Tryz.f235 0 ybG @yoS fun t=>t:=fun R κ again t=>by kernel_rfl
theorem yCG:LK ysA ysB 235 Tryz.f235 0:=lkN (u:=(unG yw0 ybG)) (yn fun t=>by kernel_rfl) yCF
theorem yIS:EV ysA ysB 235 Tryz.f235 yzg yur [.bool] kt:=fun x=>by kernel_rfl
def yOF:QF:=⟨235,kt,okN (n:=1) Tryz.func235 ⟨yCG,trivial⟩ yIS⟩
abbrev Vi:Type:=yw1
def Jd (k0:yF0→Option R) (k1:ypW→Option R) (a:Vi→Option R) (x:Vi):Option R:=nz (zlt x.e x.d (zix x.l x.e (zbd (kr (zT6 x.F (x.1,zF5 (yi x.l x.e)))) fun r=>zif r (k0 (x.1,x.e,x.b,x.c,x.F)) (a (zT4 x (zin x.e,zF8 x.F))))) (k1 (x.b,x.c,x.F)))
def y0X k0 k1:=zI (@Jd R k0 k1) zY
abbrev Vj:Type:=ypW
def Je (k0:ynE→Option R) (k1:yF1→Option R) (a:Vj→Option R) (x:Vj):Option R:=nz (zlt x.b x.1 (zix x.J x.b (y0X (fun r=>k0 (r.1,r.b,r.e,r.f,r.g,r.h,r.i,r.j,r.k)) (fun s=>a (s.1,zin s.b,zF8 s.C)) (zB x.J x.b,x.1,x.b,x.i.z,0,zF8 x.C))) (k1 (x.c,x.d,x.e,x.f,x.g,x.h,x.i)))
def y0Y k0 k1:=zI (@Je R k0 k1) zY
abbrev vv:Type:=yw4
def jJ (k0:yiq→Option R) (k1:Unit→Option R) (a:vv→Option R) (x:vv):Option R:=nz (zlt x.c x.b (zix x.1 x.c (zbd (Vh (zT6 x.D ((yD x.1 x.c).1))) fun r=>zam r (zbd (jD (x.f,(yD x.1 x.c).1)) fun s=>zso (decide (s.z≤1))) fun t=>zam t (zbd (kt (x.J,(yD x.1 x.c).1)) fun u=>zso (!u)) fun v=>zif v (k0 (4,x.c)) (a (x.1,x.b,zin x.c,zF7 x.D)))) (k1 ()))
def y0c k0 k1:=zI (@jJ R k0 k1) zY
def Wk (x:y7P):Option yiq:=nz (zbd (z9 x) fun r=>zif (!r) (zso (0,0)) (zbd (zz (x.1,x.b)) fun s=>y0Y (fun t=>zso (t.1,t.b)) (fun u=>y0c (fun v=>zso v) (fun w=>zso (0,0)) (u.c,u.c.z,0,zF7 u)) (((List.length ([1,2,3]:List y9):Nat):Int),0,zG6 x (s,([1,2,3]:List y9)))))
def yfB:List QF:=[q37,yC4,yDZ,yOE,yMA,yOF]
def ybH (t:yw1):St:=⟨.dead:: .box 1 0::dd 2 (.own 10000000:: .dead::vI t.1::dd 10 (.own 10000001::vI t.2.1::vI t.2.2.1::dd 3 (.own 10000000::vI t.2.2.2.1::vI t.2.2.2.2.1::dd 42 []))),[(1,.box [z6 t.2.2.2.2.2.1,yA t.2.2.2.2.2.2.1,zl t.2.2.2.2.2.2.2.1,yU t.2.2.2.2.2.2.2.2.1,Y6 t.2.2.2.2.2.2.2.2.2.1,vI t.2.2.2.2.2.2.2.2.2.2.1]),(10000000,.root true 91 yl t.2.2.2.2.2.2.2.2.2.2.2.1),(10000001,.root true 3 yg t.2.2.2.2.2.2.2.2.2.2.2.2)]⟩
def yoT:Gk Vi:=fun κ=>Jd (fun t=>κ none ⟨.dead:: .box 1 0::vI t.1::vI t.2.1:: .own 10000000::dd 12 (.own 10000001::vI t.2.2.1::vI t.2.2.2.1::dd 48 []),[(1,.box [z6 t.2.2.2.2.1,yA t.2.2.2.2.2.1,zl t.2.2.2.2.2.2.1,yU t.2.2.2.2.2.2.2.1,Y6 t.2.2.2.2.2.2.2.2.1,vI t.2.2.2.2.2.2.2.2.2.1]),(10000000,.root true 91 yl t.2.2.2.2.2.2.2.2.2.2.1),(10000001,.root true 3 yg t.2.2.2.2.2.2.2.2.2.2.2)]⟩) (fun t=>κ (some 2) ⟨.dead:: .box 1 0::dd 2 (.own 10000000::dd 12 (.own 10000001::vI t.1::vI t.2.1::dd 48 [])),[(1,.box [z6 t.2.2.1,yA t.2.2.2.1,zl t.2.2.2.2.1,yU t.2.2.2.2.2.1,Y6 t.2.2.2.2.2.2.1,vI t.2.2.2.2.2.2.2.1]),(10000000,.root true 91 yl t.2.2.2.2.2.2.2.2.1),(10000001,.root true 3 yg t.2.2.2.2.2.2.2.2.2)]⟩)
def ybI (t:ypW):St:=⟨.dead:: .box 1 0::dd 2 (.own 10000000::dd 12 (.own 10000001::vI t.1::vI t.2.1::dd 48 [])),[(1,.box [z6 t.2.2.1,yA t.2.2.2.1,zl t.2.2.2.2.1,yU t.2.2.2.2.2.1,Y6 t.2.2.2.2.2.2.1,vI t.2.2.2.2.2.2.2.1]),(10000000,.root true 91 yl t.2.2.2.2.2.2.2.2.1),(10000001,.root true 3 yg t.2.2.2.2.2.2.2.2.2)]⟩
def yoU:Gk Vj:=fun κ=>Je (fun t=>κ none ⟨.dead:: .box 1 0::vI t.1::vI t.2.1:: .own 10000000::dd 63 [],[(1,.box [z6 t.2.2.1,yA t.2.2.2.1,zl t.2.2.2.2.1,yU t.2.2.2.2.2.1,Y6 t.2.2.2.2.2.2.1,vI t.2.2.2.2.2.2.2.1]),(10000000,.root true 91 yl t.2.2.2.2.2.2.2.2)]⟩) (fun t=>κ (some 0) ⟨.dead:: .box 1 0::dd 2 (.own 10000000::dd 63 []),[(1,.box [z6 t.1,yA t.2.1,zl t.2.2.1,yU t.2.2.2.1,Y6 t.2.2.2.2.1,vI t.2.2.2.2.2.1]),(10000000,.root true 91 yl t.2.2.2.2.2.2)]⟩)
def y7U (t:yw4):St:=⟨.dead:: .box 1 0::dd 2 (.own 10000000::dd 34 (zl t.1::vI t.2.1::vI t.2.2.1::dd 26 [])),[(1,.box [z6 t.2.2.2.1,yA t.2.2.2.2.1,zl t.2.2.2.2.2.1,yU t.2.2.2.2.2.2.1,Y6 t.2.2.2.2.2.2.2.1,vI t.2.2.2.2.2.2.2.2.1]),(10000000,.root true 91 yl t.2.2.2.2.2.2.2.2.2)]⟩
def ykj:Gk vv:=fun κ=>jJ (fun t=>κ none ⟨dd 2 (vI t.1::vI t.2::dd 64 []),[]⟩) (fun t=>κ (some 4) ⟨dd 68 [],[]⟩)
def yfC:Lp:=lpC 15 (unG yw5 y7U) @ykj (lpC 5 (unG yw3 ybI) @yoU (lpC 8 (unG yw2 ybH) @yoT lpN))
theorem yCH:LF yfB yfC 162 8 Tryz.f162 1 ybH @yoT fun t=>t:=fun R κ again t=>by kernel_rfl
theorem yCI:LK yfB yfC 162 Tryz.f162 1:=lkN (u:=(unG yw2 ybH)) (yn fun t=>by kernel_rfl) yCH
theorem yCJ:LF yfB yfC 162 5 Tryz.f162 0 ybI @yoU fun t=>t:=fun R κ again t=>by kernel_rfl
theorem yCK:LK yfB yfC 162 Tryz.f162 0:=lkN (u:=(unG yw3 ybI)) (yn fun t=>by kernel_rfl) yCJ
theorem ysC:LF yfB yfC 162 15 Tryz.f162 2 y7U @ykj fun t=>t:=fun R κ again t=>by kernel_rfl
theorem ysD:LK yfB yfC 162 Tryz.f162 2:=lkN (u:=(unG yw5 y7U)) (yn fun t=>by kernel_rfl) ysC
theorem yIT:EV yfB yfC 162 Tryz.f162 yzh Z0 ylM Wk:=fun x=>by kernel_rfl
def yOG:QF:=⟨162,Wk,okN (n:=3) Tryz.func162 ⟨yCK,yCI,ysD,trivial⟩ yIT⟩
abbrev QP:Type:=yw6
def vw (k0:yF2→Option R) (a:QP→Option R) (x:QP):Option R:=nz (zlt x.e x.d (zix x.F x.e (zif ((yD x.F x.e).2==x.b) (zix x.1 x.c (zix x.F x.e (a (zT4 x (zin x.e,zup x.F x.e ((yD x.F x.e).1,(yD x.1 x.c).2)))))) (a (zT4 x (zin x.e,x.F))))) (k0 (x.c,x.F)))
def y2S k0:=zI (@vw R k0) zY
def vx (x:yjh):Option ytQ:=nz (zbd (YW x) fun r=>zbd (Y1 x.1) fun s=>zom (decide (r<0)) (zbd (jC x.1) fun t=>zso (!t)) fun u=>zif u (zso (s,false)) (y2S (fun v=>zbd (Yy (v.2,v.1,zin v.1)) fun w=>zso (w,true)) (x.1,x.2,r,s.z,0,s)))
def ysE:List QF:=[yHR,yIc,yu5,yMY]
def ybJ (t:yw6):St:=⟨zl t.1::vI t.2.1::dd 4 (vI t.2.2.1:: .own 10000000::dd 15 (vI t.2.2.2.1::vI t.2.2.2.2.1::dd 24 [])),[(10000000,.root true 79 yh t.2.2.2.2.2)]⟩
def yoV:Gk QP:=fun κ=>vw (fun t=>κ (some 0) ⟨dd 6 (vI t.1:: .own 10000000::dd 41 []),[(10000000,.root true 79 yh t.2)]⟩)
def ysF:Lp:=lpC 6 (unG yw7 ybJ) @yoV lpN
theorem yCL:LF ysE ysF 236 6 Tryz.f236 0 ybJ @yoV fun t=>t:=fun R κ again t=>by kernel_rfl
theorem yCM:LK ysE ysF 236 Tryz.f236 0:=lkN (u:=(unG yw7 ybJ)) (yn fun t=>by kernel_rfl) yCL
theorem yIU:EV ysE ysF 236 Tryz.f236 yzi yji yDH vx:=fun x=>by kernel_rfl
def yOH:QF:=⟨236,vx,okN (n:=1) Tryz.func236 ⟨yCM,trivial⟩ yIU⟩
def jK (x:yEp):Option yl1:=nz (zeq x.g 4 (zix x.c x.H (zbd (vx (x.c,(yD x.c x.H).1)) fun r=>zso (r.2,x.1,x.b,r.1,x.d,x.e,x.f))) (zbd (zz (x.1,x.b)) fun s=>zix s x.H (zne x.g 3 (zbd (z3 (zT6 x ((yi s x.H).1,(yi s x.H).b,0,0,0))) fun t=>zso t) (zbd (jD (x.c,(yi s x.H).b)) fun u=>zix u 0 (zbd (Zf (x.1,x.b,(yi s x.H).1,(yi s x.H).b,0,0,0)) fun v=>zif (!v.C) (zso (false,x.1,x.b,x.c,x.d,x.e,x.f)) (zbd (Zf (v.1,v.b,(yi s x.H).1,zB u 0,zF3 (yi s x.H).C)) fun w=>zso (w.C,w.1,w.b,x.c,x.d,x.e,x.f)))))))
theorem yIV:EV [yIC,yC4,yIw,yDZ,yOH] lpN 163 Tryz.f163 yzj yEq ytU jK:=fun x=>by kernel_rfl
def yOI:QF:=⟨163,jK,okN (n:=0) Tryz.func163 trivial yIV⟩
def wc (x:y7P):Option ypM:=nz (zbd (Wk x) fun r=>zbd (ye x) fun s=>zeq r.1 0 (zso (zG6 s false)) (zbd (jK (zG6 s r)) fun t=>zom (!t.1) (zbd (z9 t.2) fun u=>zso (!u)) fun v=>zif v (zbd (ye x) fun w=>zso (zG6 w false)) (zso (zG6 t.2 true))))
theorem yOJ:EV [q37,q71,yOG,yOI] lpN 81 Tryz.f81 yLA Z0 ypN wc:=fun x=>by kernel_rfl
def q81:QF:=⟨81,wc,okN (n:=0) Tryz.func81 trivial yOJ⟩
def vy (x:List ya):Option (List ya):=nz (zbd (yZ x) fun r=>zbd (zG r) fun s=>zso s)
theorem yIW:EV [yu4,yE1] lpN 237 Tryz.f237 yzk [(.sl 89 yq)] [(.sl 89 yq)] vy:=fun x=>by kernel_rfl
def yOK:QF:=⟨237,vy,okN (n:=0) Tryz.func237 trivial yIW⟩
def Wl (x:ytO):Option y6M:=nz (zbd (zN (x.1,x.b)) fun r=>zbd (yx (x.C,0,zde x.b.z)) fun s=>zif s (zix x.b x.C (zbd (vy (yk x.b x.C)) fun t=>zix r.2 x.C (zso (r.1,zup r.2 x.C t)))) (zso r))
theorem yIX:EV [q35,yIa,yOK] lpN 164 Tryz.f164 yzl ytP kI Wl:=fun x=>by kernel_rfl
def yOL:QF:=⟨164,Wl,okN (n:=0) Tryz.func164 trivial yIX⟩
def Wm (x:y6o):Option ypM:=nz (zbd (ye (x.1,x.b,x.c,x.d,x.e,x.f)) fun r=>zbd (z9 (x.1,x.b,x.c,x.d,x.e,x.f)) fun s=>zom (!s) (zbd (yx (x.G,0,zde x.b.z)) fun t=>zso (!t)) fun u=>zif u (zso (zG6 r false)) (zbd (Wl (x.1,x.b,x.G)) fun v=>zso (v.1,v.2,zG4 r.C true)))
theorem yOM:EV [q35,q37,q71,yOL] lpN 82 Tryz.f82 yLB y6p ypN Wm:=fun x=>by kernel_rfl
def q82:QF:=⟨82,Wm,okN (n:=0) Tryz.func82 trivial yOM⟩
abbrev WL:Type:=yjt ⊕ yju
def Jf (k0:yF3→Option R) (k1:yF4→Option R) (k2:yF5→Option R) (k3:yF6→Option R) (a:WL→Option R):WL→Option R
 | .inl x=>nz (zlt x.d x.c (zix x.n x.d (zan ((yi x.n x.d).c==1) ((yi x.n x.d).d==x.1) fun r=>zif r (zix x.m x.b (zbd (Zf (x.e,x.f,zT3 (yi x.n x.d) (x.b,(ym x.m x.b).1))) fun s=>zif (!s.C) (zbd (ye (x.e,x.f,x.g,x.h,x.i,x.j)) fun t=>k0 (x.1,false,zT6 x.E (t.F,x.l,x.m,zT5 t x.O))) (a (Sum.inr (zT3 x (zin x.d,zT7 x.E (s.1,s.b,zT3 x.L (zF3 x.Q)))))))) (a (Sum.inl (zT3 x (zin x.d,yFA x.E)))))) (k1 (x.1,zT9 x.E x.O)))
 | .inr x=>nz (zlt x.d x.c (zix x.p x.d (zan ((yi x.p x.d).c==1) ((yi x.p x.d).d==x.1) fun r=>zif r (zix x.o x.b (zbd (Zf (x.e,x.f,zT3 (yi x.p x.d) (x.b,(ym x.o x.b).1))) fun s=>zif (!s.C) (zbd (ye (x.e,x.f,x.g,x.h,x.i,x.j)) fun t=>k2 (x.1,false,zT6 x.E (t.F,zT4 x.L (zT5 t x.Q)))) (a (Sum.inr (zT3 x (zin x.d,zT7 x.E (s.1,s.b,zF6 x.N))))))) (a (Sum.inr (zT3 x (zin x.d,yFA x.E)))))) (k3 (x.1,yLW x.E x.Q)))
def y0Z k0 k1 k2 k3:=zI (@Jf R k0 k1 k2 k3) zY
def Wn (x:y6o):Option ypM:=nz (zbd (WJ x.d) fun r=>zbd (z9 (x.1,x.b,x.c,x.d,x.e,x.f)) fun s=>zom (!s) (zbd (yx (x.G,0,23)) fun t=>zso (!t)) fun u=>zom u (zix x.d x.G (zso (!((ym x.d x.G).b)))) fun v=>zor v (decide (r<0)) fun w=>zor w (decide (r>x.G)) fun p=>zif p (zbd (ye (x.1,x.b,x.c,x.d,x.e,x.f)) fun q=>zso (zG6 q false)) (zbd (ye (x.1,x.b,x.c,x.d,x.e,x.f)) fun m=>zix x.d x.G (zbd (ZX (x.d,(ym x.d x.G).C)) fun n=>zbd (zz (x.1,x.b)) fun o=>y0Z (fun e=>zso (zT5 e.L (e.i,e.b))) (fun f=>zbd (ZY (f.j,f.1)) fun g=>zbd (z9 (zT3 f.K (g,f.O,f.i))) fun h=>zif (!h) (zbd (ye (f.b,f.c,f.d,f.e,f.f,f.g)) fun i=>zso (zG6 i false)) (zso (zT3 f.K (g,f.O,f.i,true)))) (fun j=>zso (zT5 j.N (j.i,j.b))) (fun l=>zbd (ZY (l.l,l.1)) fun y=>zbd (z9 (l.i,l.j,l.m,y,l.O,l.k)) fun z=>zif (!z) (zbd (ye (l.b,l.c,l.d,l.e,l.f,l.g)) fun b=>zso (zG6 b false)) (zso (l.i,l.j,l.m,y,l.O,l.k,true))) (Sum.inl (x.G,n.b,o.z,0,zT6 x (0,m.F,n.1,o,m.1,m.b,m.c,m.d,m.e))))))
def yCN:List QF:=[q35,q37,q71,yMq,yMp,yC4,yIw,yMv]
def ybK (t:yjt):St:=⟨.dead::vI t.1:: .box 2 0:: .dead:: .box 4 0::dd 2 (.box 7 0:: .own 10000000::vI t.2.1::dd 53 (.own 10000001::vI t.2.2.1::vI t.2.2.2.1::dd 44 [])),[(2,.box [z6 t.2.2.2.2.1,yA t.2.2.2.2.2.1,zl t.2.2.2.2.2.2.1,yU t.2.2.2.2.2.2.2.1,Y6 t.2.2.2.2.2.2.2.2.1,vI t.2.2.2.2.2.2.2.2.2.1]),(4,.box [.nils,.nils,.nils,.nils,.nils,vI t.2.2.2.2.2.2.2.2.2.2.1]),(7,.box [.own 10000002,.own 10000003,.own 10000004,.own 10000005,.own 10000006,vI t.2.2.2.2.2.2.2.2.2.2.2.1]),(10000000,.root true 85 yc t.2.2.2.2.2.2.2.2.2.2.2.2.1),(10000001,.root true 91 yl t.2.2.2.2.2.2.2.2.2.2.2.2.2.1),(10000002,.root true 3 yg t.2.2.2.2.2.2.2.2.2.2.2.2.2.2.1),(10000003,.root true 88 yj t.2.2.2.2.2.2.2.2.2.2.2.2.2.2.2.1),(10000004,.root true 79 yh t.2.2.2.2.2.2.2.2.2.2.2.2.2.2.2.2.1),(10000005,.root true 85 yc t.2.2.2.2.2.2.2.2.2.2.2.2.2.2.2.2.2.1),(10000006,.root true 81 yt t.2.2.2.2.2.2.2.2.2.2.2.2.2.2.2.2.2.2)]⟩
theorem ysG: ∀ s t,unG yw8 ybK s=some t→ybK t=s:=yn fun t=>by kernel_rfl
def ybL (t:yju):St:=⟨.dead::vI t.1:: .box 2 0:: .dead:: .box 4 0::dd 2 (.box 7 0:: .own 10000000::vI t.2.1::dd 53 (.own 10000001::vI t.2.2.1::vI t.2.2.2.1::dd 44 [])),[(2,.box [z6 t.2.2.2.2.1,yA t.2.2.2.2.2.1,zl t.2.2.2.2.2.2.1,yU t.2.2.2.2.2.2.2.1,Y6 t.2.2.2.2.2.2.2.2.1,vI t.2.2.2.2.2.2.2.2.2.1]),(4,.box [.nils,.nils,.nils,.nils,.nils,vI t.2.2.2.2.2.2.2.2.2.2.1]),(7,.box [z6 t.2.2.2.2.2.2.2.2.2.2.2.1,yA t.2.2.2.2.2.2.2.2.2.2.2.2.1,.own 10000002,.own 10000003,.own 10000004,vI t.2.2.2.2.2.2.2.2.2.2.2.2.2.1]),(10000000,.root true 85 yc t.2.2.2.2.2.2.2.2.2.2.2.2.2.2.1),(10000001,.root true 91 yl t.2.2.2.2.2.2.2.2.2.2.2.2.2.2.2.1),(10000002,.root true 79 yh t.2.2.2.2.2.2.2.2.2.2.2.2.2.2.2.2.1),(10000003,.root true 85 yc t.2.2.2.2.2.2.2.2.2.2.2.2.2.2.2.2.2.1),(10000004,.root true 81 yt t.2.2.2.2.2.2.2.2.2.2.2.2.2.2.2.2.2.2)]⟩
theorem ysH: ∀ s t,unG yw9 ybL s=some t→ybL t=s:=yn fun t=>by kernel_rfl
def ybM:(yjt ⊕ yju)→St:=Sum.elim ybK ybL
def yfD (s:St):Option (yjt ⊕ yju):=((unG yw8 ybK s).map Sum.inl).or (((unG yw9 ybL) s).map Sum.inr)
theorem ysI: ∀ s t,yfD s=some t→ybM t=s:=y5x ysG ysH
def ymU:Gk WL:=fun κ=>Jf (fun t=>κ none ⟨.dead::vI t.1:: .box 2 0:: .dead:: .box 4 0::vB t.2.1:: .dead:: .box 7 0:: .own 10000000::dd 101 [],[(2,.box [z6 t.2.2.1,yA t.2.2.2.1,zl t.2.2.2.2.1,yU t.2.2.2.2.2.1,Y6 t.2.2.2.2.2.2.1,vI t.2.2.2.2.2.2.2.1]),(4,.box [.own 10000001,.own 10000002,.own 10000003,.own 10000004,.own 10000005,vI t.2.2.2.2.2.2.2.2.1]),(7,.box [.own 10000006,.own 10000007,.own 10000008,.own 10000009,.own 10000010,vI t.2.2.2.2.2.2.2.2.2.1]),(10000000,.root true 85 yc t.2.2.2.2.2.2.2.2.2.2.1),(10000001,.root true 3 yg t.2.2.2.2.2.2.2.2.2.2.2.1),(10000002,.root true 88 yj t.2.2.2.2.2.2.2.2.2.2.2.2.1),(10000003,.root true 79 yh t.2.2.2.2.2.2.2.2.2.2.2.2.2.1),(10000004,.root true 85 yc t.2.2.2.2.2.2.2.2.2.2.2.2.2.2.1),(10000005,.root true 81 yt t.2.2.2.2.2.2.2.2.2.2.2.2.2.2.2.1),(10000006,.root true 3 yg t.2.2.2.2.2.2.2.2.2.2.2.2.2.2.2.2.1),(10000007,.root true 88 yj t.2.2.2.2.2.2.2.2.2.2.2.2.2.2.2.2.2.1),(10000008,.root true 79 yh t.2.2.2.2.2.2.2.2.2.2.2.2.2.2.2.2.2.2.1),(10000009,.root true 85 yc t.2.2.2.2.2.2.2.2.2.2.2.2.2.2.2.2.2.2.2.1),(10000010,.root true 81 yt t.2.2.2.2.2.2.2.2.2.2.2.2.2.2.2.2.2.2.2.2)]⟩) (fun t=>κ (some 0) ⟨.dead::vI t.1:: .box 2 0:: .dead:: .box 4 0::dd 2 (.box 7 0:: .own 10000000::dd 101 []),[(2,.box [z6 t.2.1,yA t.2.2.1,zl t.2.2.2.1,yU t.2.2.2.2.1,Y6 t.2.2.2.2.2.1,vI t.2.2.2.2.2.2.1]),(4,.box [.nils,.nils,.nils,.nils,.nils,vI t.2.2.2.2.2.2.2.1]),(7,.box [.own 10000001,.own 10000002,.own 10000003,.own 10000004,.own 10000005,vI t.2.2.2.2.2.2.2.2.1]),(10000000,.root true 85 yc t.2.2.2.2.2.2.2.2.2.1),(10000001,.root true 3 yg t.2.2.2.2.2.2.2.2.2.2.1),(10000002,.root true 88 yj t.2.2.2.2.2.2.2.2.2.2.2.1),(10000003,.root true 79 yh t.2.2.2.2.2.2.2.2.2.2.2.2.1),(10000004,.root true 85 yc t.2.2.2.2.2.2.2.2.2.2.2.2.2.1),(10000005,.root true 81 yt t.2.2.2.2.2.2.2.2.2.2.2.2.2.2)]⟩) (fun t=>κ none ⟨.dead::vI t.1:: .box 2 0:: .dead:: .box 4 0::vB t.2.1:: .dead:: .box 7 0:: .own 10000000::dd 101 [],[(2,.box [z6 t.2.2.1,yA t.2.2.2.1,zl t.2.2.2.2.1,yU t.2.2.2.2.2.1,Y6 t.2.2.2.2.2.2.1,vI t.2.2.2.2.2.2.2.1]),(4,.box [.own 10000001,.own 10000002,.own 10000003,.own 10000004,.own 10000005,vI t.2.2.2.2.2.2.2.2.1]),(7,.box [z6 t.2.2.2.2.2.2.2.2.2.1,yA t.2.2.2.2.2.2.2.2.2.2.1,.own 10000006,.own 10000007,.own 10000008,vI t.2.2.2.2.2.2.2.2.2.2.2.1]),(10000000,.root true 85 yc t.2.2.2.2.2.2.2.2.2.2.2.2.1),(10000001,.root true 3 yg t.2.2.2.2.2.2.2.2.2.2.2.2.2.1),(10000002,.root true 88 yj t.2.2.2.2.2.2.2.2.2.2.2.2.2.2.1),(10000003,.root true 79 yh t.2.2.2.2.2.2.2.2.2.2.2.2.2.2.2.1),(10000004,.root true 85 yc t.2.2.2.2.2.2.2.2.2.2.2.2.2.2.2.2.1),(10000005,.root true 81 yt t.2.2.2.2.2.2.2.2.2.2.2.2.2.2.2.2.2.1),(10000006,.root true 79 yh t.2.2.2.2.2.2.2.2.2.2.2.2.2.2.2.2.2.2.1),(10000007,.root true 85 yc t.2.2.2.2.2.2.2.2.2.2.2.2.2.2.2.2.2.2.2.1),(10000008,.root true 81 yt t.2.2.2.2.2.2.2.2.2.2.2.2.2.2.2.2.2.2.2.2)]⟩) (fun t=>κ (some 0) ⟨.dead::vI t.1:: .box 2 0:: .dead:: .box 4 0::dd 2 (.box 7 0:: .own 10000000::dd 101 []),[(2,.box [z6 t.2.1,yA t.2.2.1,zl t.2.2.2.1,yU t.2.2.2.2.1,Y6 t.2.2.2.2.2.1,vI t.2.2.2.2.2.2.1]),(4,.box [.nils,.nils,.nils,.nils,.nils,vI t.2.2.2.2.2.2.2.1]),(7,.box [z6 t.2.2.2.2.2.2.2.2.1,yA t.2.2.2.2.2.2.2.2.2.1,.own 10000001,.own 10000002,.own 10000003,vI t.2.2.2.2.2.2.2.2.2.2.1]),(10000000,.root true 85 yc t.2.2.2.2.2.2.2.2.2.2.2.1),(10000001,.root true 79 yh t.2.2.2.2.2.2.2.2.2.2.2.2.1),(10000002,.root true 85 yc t.2.2.2.2.2.2.2.2.2.2.2.2.2.1),(10000003,.root true 81 yt t.2.2.2.2.2.2.2.2.2.2.2.2.2.2)]⟩)
def yCO:Lp:=lpC 7 yfD @ymU lpN
theorem ysJ:LF yCN yCO 83 7 Tryz.f83 0 ybM @ymU fun v:yjt=> .inl v:=fun R κ again v=>by kernel_rfl
theorem ysK:LF yCN yCO 83 7 Tryz.f83 0 ybM @ymU fun v:yju=> .inr v:=fun R κ again v=>by kernel_rfl
theorem yIY:LF yCN yCO 83 7 Tryz.f83 0 ybM @ymU fun t=>t:=(LC.sum ysJ ysK)
theorem yIZ:LK yCN yCO 83 Tryz.f83 0:=lkN (u:=yfD) ysI yIY
theorem yON:EV yCN yCO 83 Tryz.f83 yLC y6p ypN Wn:=fun x=>by kernel_rfl
def q83:QF:=⟨83,Wn,okN (n:=1) Tryz.func83 ⟨yIZ,trivial⟩ yON⟩
def jL (x:ylN):Option y6o:=nz (zbd (Vg x.G) fun r=>zom (!r) (zbd (z9 (x.1,x.b,x.c,x.d,x.e,x.f)) fun s=>zso (!s)) fun t=>zif t (zbd (ye (x.1,x.b,x.c,x.d,x.e,x.f)) fun u=>zso (zG6 u 1)) (zeq x.g 1 (zbd (vi (zT6 x (x.h,x.j))) fun v=>zso v) (zeq x.g 2 (zbd (QG (zT6 x (x.h,x.i,x.K==1))) fun w=>zso w) (zeq x.g 3 (zbd (QH (zT6 x x.h)) fun p=>zso p) (zeq x.g 4 (zbd (VZ (zT6 x (x.h,x.J))) fun q=>zso q) (zeq x.g 5 (zbd (kq (zT6 x (x.h,x.j))) fun m=>zso m) (zeq x.g 6 (zbd (vt (zT6 x (x.h,x.j))) fun n=>zso n) (zeq x.g 7 (zbd (wc (x.1,x.b,x.c,x.d,x.e,x.f)) fun o=>zif (!o.G) (zso (zT6 o 2)) (zso (zT6 o 0))) (zeq x.g 8 (zbd (Wm (zT6 x x.j)) fun e=>zif (!e.G) (zso (zT6 e 2)) (zso (zT6 e 0))) (zeq x.g 9 (zbd (Wn (zT6 x x.j)) fun f=>zif (!f.G) (zso (zT6 f 2)) (zso (zT6 f 0))) (zif (!false) (zso (([]:List y9),([]:List y0),([]:List y7),([]:List y6),([]:List yf),0,2)) (zso (([]:List y9),([]:List y0),([]:List y7),([]:List y6),([]:List yf),0,0)))))))))))))
theorem yOO:EV [q37,q71,q74,q75,q76,q77,q78,q79,q80,q81,q82,q83] lpN 27 Tryz.f27 yLD ylO y6p jL:=fun x=>by kernel_rfl
def q27:QF:=⟨27,jL,okN (n:=0) Tryz.func27 trivial yOO⟩
abbrev Vk:Type:=yjv ⊕ yjw
def Z9 (k0:ywc→Option R) (k1:yjj→Option R) (a:Vk→Option R):Vk→Option R
 | .inl x=>nz (zlt x.c x.b (zix x.1 x.c (zbd (jL (zG5 x.F (x.e,zF5 (vN x.1 x.c)))) fun r=>a (Sum.inr (x.1,x.b,zin x.c,x.d,r.1,r.b,r.c,r.d,r.e,r.f)))) (k0 x.D))
 | .inr x=>nz (zlt x.c x.b (zix x.1 x.c (zbd (jL (zG6 x.E (zF5 (vN x.1 x.c)))) fun r=>a (Sum.inr (x.1,x.b,zin x.c,x.d,r.1,r.b,r.c,r.d,r.e,r.f)))) (k1 x.D))
def y10 k0 k1:=zI (@Z9 R k0 k1) zY
def YM (x:ypS):Option y7P:=nz (zbd (ye (x.1,x.b,x.c,x.d,x.e,x.f)) fun r=>zsl 0 (if 200<x.G.z then 200 else x.G.z) x.G.z (y10 (fun s=>zso (zG5 s.C s.b)) (fun t=>zso t.2) (Sum.inl (zcu x.G 0 (if 200<x.G.z then 200 else x.G.z),((List.length (zcu x.G 0 (if 200<x.G.z then 200 else x.G.z)):Nat):Int),0,0,r.F,r.1,r.b,r.c,r.d,r.e))))
def yCP:List QF:=[q27,q71]
def ybN (t:yjv):St:=⟨dd 4 (.box 4 0:: .box 5 0::dd 8 (yDz t.1::vI t.2.1::vI t.2.2.1::dd 11 [])),[(4,.box [.nils,.nils,.nils,.nils,.nils,vI t.2.2.2.1]),(5,.box [.own 10000000,.own 10000001,.own 10000002,.own 10000003,.own 10000004,vI t.2.2.2.2.1]),(10000000,.root true 3 yg t.2.2.2.2.2.1),(10000001,.root true 88 yj t.2.2.2.2.2.2.1),(10000002,.root true 79 yh t.2.2.2.2.2.2.2.1),(10000003,.root true 85 yc t.2.2.2.2.2.2.2.2.1),(10000004,.root true 81 yt t.2.2.2.2.2.2.2.2.2)]⟩
theorem ysL: ∀ s t,unG ywa ybN s=some t→ybN t=s:=yn fun t=>by kernel_rfl
def ybO (t:yjw):St:=⟨dd 4 (.box 4 0:: .box 5 0::dd 8 (yDz t.1::vI t.2.1::vI t.2.2.1::dd 11 [])),[(4,.box [.nils,.nils,.nils,.nils,.nils,vI t.2.2.2.1]),(5,.box [z6 t.2.2.2.2.1,yA t.2.2.2.2.2.1,zl t.2.2.2.2.2.2.1,yU t.2.2.2.2.2.2.2.1,Y6 t.2.2.2.2.2.2.2.2.1,vI t.2.2.2.2.2.2.2.2.2])]⟩
theorem ysM: ∀ s t,unG ywb ybO s=some t→ybO t=s:=yn fun t=>by kernel_rfl
def ybP:(yjv ⊕ yjw)→St:=Sum.elim ybN ybO
def yfE (s:St):Option (yjv ⊕ yjw):=((unG ywa ybN s).map Sum.inl).or (((unG ywb ybO) s).map Sum.inr)
theorem ysN: ∀ s t,yfE s=some t→ybP t=s:=y5x ysL ysM
def ymV:Gk Vk:=fun κ=>Z9 (fun t=>κ (some 0) ⟨dd 4 (.box 4 0:: .box 5 0::dd 22 []),[(4,.box [.nils,.nils,.nils,.nils,.nils,vI t.1]),(5,.box [.own 10000000,.own 10000001,.own 10000002,.own 10000003,.own 10000004,vI t.2.1]),(10000000,.root true 3 yg t.2.2.1),(10000001,.root true 88 yj t.2.2.2.1),(10000002,.root true 79 yh t.2.2.2.2.1),(10000003,.root true 85 yc t.2.2.2.2.2.1),(10000004,.root true 81 yt t.2.2.2.2.2.2)]⟩) (fun t=>κ (some 0) ⟨dd 4 (.box 4 0:: .box 5 0::dd 22 []),[(4,.box [.nils,.nils,.nils,.nils,.nils,vI t.1]),(5,.box [z6 t.2.1,yA t.2.2.1,zl t.2.2.2.1,yU t.2.2.2.2.1,Y6 t.2.2.2.2.2.1,vI t.2.2.2.2.2.2])]⟩)
def yCQ:Lp:=lpC 3 yfE @ymV lpN
theorem ysO:LF yCP yCQ 25 3 Tryz.f25 0 ybP @ymV fun v:yjv=> .inl v:=fun R κ again v=>by kernel_rfl
theorem ysP:LF yCP yCQ 25 3 Tryz.f25 0 ybP @ymV fun v:yjw=> .inr v:=fun R κ again v=>by kernel_rfl
theorem yJ0:LF yCP yCQ 25 3 Tryz.f25 0 ybP @ymV fun t=>t:=(LC.sum ysO ysP)
theorem yJ1:LK yCP yCQ 25 Tryz.f25 0:=lkN (u:=yfE) ysN yJ0
theorem yOP:EV yCP yCQ 25 Tryz.f25 yLE ypT Z0 YM:=fun x=>by kernel_rfl
def q25:QF:=⟨25,YM,okN (n:=1) Tryz.func25 ⟨yJ1,trivial⟩ yOP⟩
def ku (x:List qN):Option yF7:=nz (zbd (K0 x) fun r=>zbd (Wy (x,14)) fun s=>zbd (WI (zG3 r s)) fun t=>zso (zG3 t.G (t.1,t.b,t.c,t.d,t.e,t.f)))
theorem yOQ:EV [q45,q56,q69] lpN 72 Tryz.f72 yLF [(.sl 5 Zo)] yF8 ku:=fun x=>by kernel_rfl
def q72:QF:=⟨72,ku,okN (n:=0) Tryz.func72 trivial yOQ⟩
def WM (x:Qz1):Option ypO:=nz (zbd (Jy (zG3 x ([{data:= #[]},{data:= #[97]},{data:= #[98,49]},{data:= #[115,105,120,108,101,116]},{data:= #[115,101,118,101,110,108,101]},{data:= #[65]},{data:= #[97,32,98]},{data:= #[0]},{data:= #[104,101,108,108,111]}]:List y03))) fun r=>zso r)
theorem yJ2:EV [yDX] lpN 150 Tryz.f150 yzm qz1 ypP WM:=fun x=>by kernel_rfl
def yOR:QF:=⟨150,WM,okN (n:=0) Tryz.func150 trivial yJ2⟩
def K6 (x:Qz1):Option Qz2:=nz (zbd (yz (zG3 x ([0,1,7,255,256,4660,65535,65536,-1,9223372036854775807,-9223372036854775808]:List y9))) fun r=>zso r)
theorem yJ3:EV [q49] lpN 151 Tryz.f151 yzn qz1 qz2 K6:=fun x=>by kernel_rfl
def yOS:QF:=⟨151,K6,okN (n:=0) Tryz.func151 trivial yJ3⟩
def WN (x:Qz1):Option yux:=nz (zbd (Y3 x) fun r=>zbd (yb (zG3 r.F 10)) fun s=>zeq s.1 0 (zbd (yz (zG3 s.2 ([0,10,3,7,-1]:List y9))) fun t=>zso (t.1,zT4 r.2 t.2)) (zeq s.1 1 (zbd (WM s.2) fun u=>zso (r.1,u.1,zT3 r.C u.2)) (zeq s.1 2 (zbd (WM s.2) fun v=>zso (r.1,r.b,v.1,r.d,r.e,v.2)) (zeq s.1 3 (zbd (K6 s.2) fun w=>zso (zT3 r (w.1,r.e,w.2))) (zeq s.1 4 (zbd (K6 s.2) fun p=>zso (zT4 r p)) (zso (zT5 r s.2)))))))
theorem yOT:EV [q49,q51,yDY,yOR,yOS] lpN 73 Tryz.f73 yLG qz1 yuy WN:=fun x=>by kernel_rfl
def q73:QF:=⟨73,WN,okN (n:=0) Tryz.func73 trivial yOT⟩
def wd (x:List qN):Option ylN:=nz (zbd (ku x) fun r=>zbd (WN (r.1,r.b,r.c)) fun s=>zso (zG6 r.D (s.1,s.b,s.c,s.d,s.e)))
theorem yOU:EV [q72,q73] lpN 26 Tryz.f26 yLH [(.sl 5 Zo)] ylO wd:=fun x=>by kernel_rfl
def q26:QF:=⟨26,wd,okN (n:=0) Tryz.func26 trivial yOU⟩
abbrev qt:Type:=ylW
def we (k0:List yO→Option R) (a:qt→Option R) (x:qt):Option R:=nz (zlt x.b x.1.z (zix x.1 x.b (zix x.1 x.b (zix x.1 x.b (zgd ([]:List y9) ((yG x.1 x.b).C) 8 (zgd x.C ([((yG x.1 x.b).1,(yG x.1 x.b).b,([]:List y9)++(yG x.1 x.b).C)]:List yO) 48 (a (x.1,zin x.b,x.C++([((yG x.1 x.b).1,(yG x.1 x.b).b,([]:List y9)++(yG x.1 x.b).C)]:List yO)))))))) (k0 x.C))
def y1T k0:=zI (@we R k0) zY
def Yq (x:List yO):Option (List yO):=nz (y1T (fun r=>zso r) (x,0,([]:List yO)))
def ysQ:List QF:=[]
def ybQ (t:ylW):St:=⟨y5z t.1::dd 2 (.own 10000000::vI t.2.1::dd 29 []),[(10000000,.root true 141 yr t.2.2)]⟩
def yoW:Gk qt:=fun κ=>we (fun t=>κ (some 0) ⟨dd 3 (.own 10000000::dd 30 []),[(10000000,.root true 141 yr t)]⟩)
def ysR:Lp:=lpC 3 (unG ylX ybQ) @yoW lpN
theorem yCR:LF ysQ ysR 101 3 Tryz.f101 0 ybQ @yoW fun t=>t:=fun R κ again t=>by kernel_rfl
theorem yCS:LK ysQ ysR 101 Tryz.f101 0:=lkN (u:=(unG ylX ybQ)) (yn fun t=>by kernel_rfl) yCR
theorem yJ4:EV ysQ ysR 101 Tryz.f101 yzo [(.sl 141 yr)] [(.sl 141 yr)] Yq:=fun x=>by kernel_rfl
def yu7:QF:=⟨101,Yq,okN (n:=1) Tryz.func101 ⟨yCS,trivial⟩ yJ4⟩
abbrev y0t:Type:=yi6
def kv (k0:Int→Option R) (k1:Unit→Option R) (a:y0t→Option R) (x:y0t):Option R:=nz (zlt x.C x.1.z (zix x.1 x.C (zif (((yG x.1 x.C).1).toList==x.b.toList) (k0 x.C) (a (x.1,x.b,zin x.C)))) (k1 ()))
def y3O k0 k1:=zI (@kv R k0 k1) zY
def Zj (x:yfr):Option Int:=nz (y3O (fun r=>zso r) (fun s=>zso (-1)) (x.1,x.2,0))
def ysS:List QF:=[]
def ybR (t:yi6):St:=⟨y5z t.1::vS t.2.1::dd 3 (vI t.2.2::dd 14 []),[]⟩
def yoX:Gk y0t:=fun κ=>kv (fun t=>κ none ⟨dd 4 (vI t::dd 15 []),[]⟩) (fun t=>κ (some 0) ⟨dd 20 [],[]⟩)
def ysT:Lp:=lpC 2 (unG yi7 ybR) @yoX lpN
theorem yCT:LF ysS ysT 197 2 Tryz.f197 0 ybR @yoX fun t=>t:=fun R κ again t=>by kernel_rfl
theorem yCU:LK ysS ysT 197 Tryz.f197 0:=lkN (u:=(unG yi7 ybR)) (yn fun t=>by kernel_rfl) yCT
theorem yJ5:EV ysS ysT 197 Tryz.f197 yzp yfs [(.int .i64)] Zj:=fun x=>by kernel_rfl
def yu8:QF:=⟨197,Zj,okN (n:=1) Tryz.func197 ⟨yCU,trivial⟩ yJ5⟩
abbrev vz:Type:=ypX
def vC (k0:ypX→Option R) (a:vz→Option R) (x:vz):Option R:=nz (zam (decide (x.1>0)) (zix x.E (zde x.1) (zso (!(Go.Op.bytesLess (((yG x.E (zde x.1)).1).toList) x.b.toList||((yG x.E (zde x.1)).1).toList==x.b.toList)))) fun r=>zif r (zix x.E (zde x.1) (zix x.E x.1 (a (zde x.1,zT3 x.2 (zup x.E x.1 (zF3 (yG x.E (zde x.1)))))))) (k0 x))
def y2T k0:=zI (@vC R k0) zY
def JN (x:ywe):Option (List yO):=nz (zbd (Yq x.1) fun r=>zgd r ([x.2]:List yO) 48 (y2T (fun s=>zix s.E s.1 (zso (zup s.E s.1 (s.b,s.c,s.d)))) (zde ((List.length (r++([x.2]:List yO)):Nat):Int),zG3 x.2 (r++([x.2]:List yO)))))
def ysU:List QF:=[yu7]
def ybS (t:ypX):St:=⟨dd 3 (.box 3 0:: .dead:: .own 10000000::vI t.1::dd 36 []),[(3,.box [vS t.2.1,vB t.2.2.1,z6 t.2.2.2.1]),(10000000,.root true 141 yr t.2.2.2.2)]⟩
def yoY:Gk vz:=fun κ=>vC (fun t=>κ (some 0) ⟨dd 3 (.box 3 0:: .dead:: .own 10000000::vI t.1::dd 36 []),[(3,.box [vS t.2.1,vB t.2.2.1,z6 t.2.2.2.1]),(10000000,.root true 141 yr t.2.2.2.2)]⟩)
def ysV:Lp:=lpC 3 (unG ywd ybS) @yoY lpN
theorem yCV:LF ysU ysV 198 3 Tryz.f198 0 ybS @yoY fun t=>t:=fun R κ again t=>by kernel_rfl
theorem yCW:LK ysU ysV 198 Tryz.f198 0:=lkN (u:=(unG ywd ybS)) (yn fun t=>by kernel_rfl) yCV
theorem yJ6:EV ysU ysV 198 Tryz.f198 yzq ywf [(.sl 141 yr)] JN:=fun x=>by kernel_rfl
def yMB:QF:=⟨198,JN,okN (n:=1) Tryz.func198 ⟨yCW,trivial⟩ yJ6⟩
def wg (x:yi6):Option y6q:=nz (zbd (Yq x.1) fun r=>zbd (zS x.b) fun s=>zif (!s) (zso (r,1)) (zbd (Zj (x.1,x.b)) fun t=>zge t 0 (zso (r,3)) (zbd (yE (x.C,1,12)) fun u=>zif (!u) (zso (r,4)) (zge x.1.z 6 (zso (r,6)) (if 0≤x.C then if x.C≤x.C then if x.C*((8:Nat):Int)≤140737488351232 then zbd (JN (x.1,x.b,false,List.replicate x.C.toNat y2d)) fun v=>zso (v,0) else none else none else none)))))
theorem yJ7:EV [q67,yu7,yqc,yu8,yMB] lpN 102 Tryz.f102 yzr yi7 y6r wg:=fun x=>by kernel_rfl
def yOV:QF:=⟨102,wg,okN (n:=0) Tryz.func102 trivial yJ7⟩
def kw (x:ywg):Option y6q:=nz (zbd (Yq x.1) fun r=>zbd (Zj (x.1,x.b)) fun s=>zbd (zS x.b) fun t=>zom (!t) (zbd (zS x.c) fun u=>zso (!u)) fun v=>zif v (zso (r,1)) (zlt s 0 (zso (r,2)) (zbd (Zj (x.1,x.c)) fun w=>zge w 0 (zso (r,3)) (zge x.1.z 6 (zso (r,6)) (zix x.1 s (zgd ([]:List y9) ((yG x.1 s).C) 8 (zbd (JN (x.1,x.c,x.D,([]:List y9)++(yG x.1 s).C)) fun p=>zso (p,0))))))))
theorem yJ8:EV [yu7,yqc,yu8,yMB] lpN 103 Tryz.f103 yzs ywh y6r kw:=fun x=>by kernel_rfl
def yOW:QF:=⟨103,kw,okN (n:=0) Tryz.func103 trivial yJ8⟩
def ZM (x:yfr):Option Int:=nz (zbd (zS x.2) fun r=>zif (!r) (zso 1) (zbd (Zj x) fun s=>zlt s 0 (zso 2) (zso 0)))
theorem yJ9:EV [yqc,yu8] lpN 199 Tryz.f199 yzt yfs [(.int .i64)] ZM:=fun x=>by kernel_rfl
def yJa:QF:=⟨199,ZM,okN (n:=0) Tryz.func199 trivial yJ9⟩
def kx (x:yfr):Option y6q:=nz (zbd (Yq x.1) fun r=>zbd (ZM x) fun s=>zne s 0 (zso (r,s)) (zbd (Zj x) fun t=>zsl 0 t r.z (zgd ([]:List yO) (zcu r 0 t) 48 (zsl (zin t) r.z r.z (zgd (([]:List yO)++zcu r 0 t) (zcu r (zin t) r.z) 48 (zso (([]:List yO)++zcu r 0 t++zcu r (zin t) r.z,0)))))))
theorem yJb:EV [yu7,yu8,yJa] lpN 104 Tryz.f104 yzu yfs y6r kx:=fun x=>by kernel_rfl
def yOX:QF:=⟨104,kx,okN (n:=0) Tryz.func104 trivial yJb⟩
abbrev Wo:Type:=ylW
def Zk (k0:List yO→Option R) (a:Wo→Option R) (x:Wo):Option R:=nz (zlt x.b x.1.z (zix x.1 x.b (zix x.1 x.b (zix x.1 x.b (zgd ([]:List y9) ((yG x.1 x.b).C) 8 (zgd x.C ([((yG x.1 x.b).1,(yG x.1 x.b).b,([]:List y9)++(yG x.1 x.b).C)]:List yO) 48 (a (x.1,zin x.b,x.C++([((yG x.1 x.b).1,(yG x.1 x.b).b,([]:List y9)++(yG x.1 x.b).C)]:List yO)))))))) (k0 x.C))
def q8 k0:=zI (@Zk R k0) zY
def ZZ (x:List yO):Option (List yO):=nz (q8 (fun r=>zso r) (x,0,([]:List yO)))
def ybT:List QF:=[]
def y4c (t:ylW):St:=⟨y5z t.1::dd 2 (.own 10000000::vI t.2.1::dd 29 []),[(10000000,.deep true 0 141 yr t.2.2)]⟩
def ydx:Gk Wo:=fun κ=>Zk (fun t=>κ (some 0) ⟨dd 3 (.own 10000000::dd 30 []),[(10000000,.deep true 0 141 yr t)]⟩)
def ybU:Lp:=lpC 3 (unG ylX y4c) @ydx lpN
theorem ykk:LF ybT ybU 100006 3 Tryz.f101 0 y4c @ydx fun t=>t:=fun R κ again t=>by kernel_rfl
theorem ykl:LK ybT ybU 100006 Tryz.f101 0:=lkN (u:=(unG ylX y4c)) (yn fun t=>by kernel_rfl) ykk
theorem ymW:EV ybT ybU 100006 Tryz.f101 ygR [(.sl 141 yr)] [(.sl 141 yr)] ZZ:=fun x=>by kernel_rfl
def ysW:QF:=⟨100006,ZZ,okN (n:=1) Tryz.func101 ⟨ykl,trivial⟩ ymW⟩
def Jg (x:ywi):Option y6q:=nz (zbd (ZZ x.1) fun r=>zbd (ZM (x.1,x.b)) fun s=>zbd (Zj (x.1,x.b)) fun t=>zne s 0 (zso (r,s)) (zix x.1 t (zif ((yG x.1 t).b) (zso (r,5)) (zix x.1 t (zbd (yE (x.c,0,zde ((List.length ((yG x.1 t).C):Nat):Int))) fun u=>zom (!u) (zbd (zC x.D) fun v=>zso (!v)) fun w=>zif w (zso (r,4)) (zix r t (if 0≤x.c then if x.c<((List.length ((yG r t).C):Nat):Int) then zso (zup r t ((yG r t).1,(yG r t).b,zup ((yG r t).C) x.c x.D),0) else none else none)))))))
theorem yJc:EV [q67,yzT,yu8,yJa,ysW] lpN 105 Tryz.f105 yzv ywj y6r Jg:=fun x=>by kernel_rfl
def yOY:QF:=⟨105,Jg,okN (n:=0) Tryz.func105 trivial yJc⟩
abbrev JO:Type:=ywk
def JP (k0:yF9→Option R) (a:JO→Option R) (x:JO):Option R:=nz (zlt x.d x.b (zix x.1 x.c (zlt x.d ((List.length ((yG x.1 x.c).C):Nat):Int) (zix x.1 x.c (if 0≤x.d then if x.d<((List.length ((yG x.1 x.c).C):Nat):Int) then zgd x.F ([zB ((yG x.1 x.c).C) x.d]:List y9) 8 (a (zT3 x (zin x.d,x.e,x.F++([zB ((yG x.1 x.c).C) x.d]:List y9)))) else none else none)) (zgd x.F ([0]:List y9) 8 (a (zT3 x (zin x.d,x.e,x.F++([0]:List y9))))))) (k0 (x.c,x.E)))
def kS k0:=zI (@JP R k0) zY
def wh (x:yi6):Option y6q:=nz (zbd (Yq x.1) fun r=>zbd (ZM (x.1,x.b)) fun s=>zbd (Zj (x.1,x.b)) fun t=>zne s 0 (zso (r,s)) (zix x.1 t (zif ((yG x.1 t).b) (zso (r,5)) (zbd (yE (x.C,1,12)) fun u=>zif (!u) (zso (r,4)) (kS (fun v=>zix v.b v.1 (zso (zup v.b v.1 ((yG v.b v.1).1,(yG v.b v.1).b,v.C),0))) (x.1,x.C,t,0,r,([]:List y9)))))))
def ysX:List QF:=[q67,yu7,yu8,yJa]
def y7V (t:ywk):St:=⟨y5z t.1:: .dead::vI t.2.1::dd 5 (.own 10000000:: .dead::vI t.2.2.1:: .own 10000001::vI t.2.2.2.1::dd 58 []),[(10000000,.root true 141 yr t.2.2.2.2.1),(10000001,.root true 3 yg t.2.2.2.2.2)]⟩
def ykm:Gk JO:=fun κ=>JP (fun t=>κ (some 1) ⟨dd 8 (.own 10000000:: .dead::vI t.1:: .own 10000001::dd 59 []),[(10000000,.root true 141 yr t.2.1),(10000001,.root true 3 yg t.2.2)]⟩)
def ysY:Lp:=lpC 12 (unG ywl y7V) @ykm lpN
theorem ysZ:LF ysX ysY 106 12 Tryz.f106 0 y7V @ykm fun t=>t:=fun R κ again t=>by kernel_rfl
theorem yt0:LK ysX ysY 106 Tryz.f106 0:=lkN (u:=(unG ywl y7V)) (yn fun t=>by kernel_rfl) ysZ
theorem yJd:EV ysX ysY 106 Tryz.f106 yzw yi7 y6r wh:=fun x=>by kernel_rfl
def yOZ:QF:=⟨106,wh,okN (n:=1) Tryz.func106 ⟨yt0,trivial⟩ yJd⟩
def Zl (x:ypY):Option y6q:=nz (zbd (V0 x.2) fun r=>zif (!r) (zbd (Yq x.1) fun s=>zso (s,1)) (zeq x.b 1 (zbd (wg (x.1,x.c,x.e)) fun t=>zso t) (zeq x.b 2 (zbd (kw (x.1,x.c,x.d,x.F==1)) fun u=>zso u) (zeq x.b 3 (zbd (kx (x.1,x.c)) fun v=>zso v) (zeq x.b 4 (zbd (Jg (x.1,x.c,x.E)) fun w=>zso w) (zeq x.b 5 (zbd (Jg (x.1,x.c,x.e,0)) fun p=>zso p) (zeq x.b 6 (zbd (wh (x.1,x.c,x.e)) fun q=>zso q) (zbd (Yq x.1) fun m=>zso (m,0)))))))))
theorem yP0:EV [q84,yu7,yOV,yOW,yOX,yOY,yOZ] lpN 31 Tryz.f31 yLI ypZ y6r Zl:=fun x=>by kernel_rfl
def q31:QF:=⟨31,Zl,okN (n:=0) Tryz.func31 trivial yP0⟩
abbrev wi:Type:=yjx ⊕ yjy
def wj (k0:yFa→Option R) (k1:yq0→Option R) (a:wi→Option R):wi→Option R
 | .inl x=>nz (zgt x.1 0 (zbd (Y3 (x.b,x.c,x.d)) fun r=>zbd (Zl (x.E,r.1,r.b,r.c,r.d,r.e)) fun s=>a (Sum.inr (s.1,zde x.1,zF3 r.F))) (k0 x.2))
 | .inr x=>nz (zgt x.b 0 (zbd (Y3 x.C) fun r=>zbd (Zl (x.1,r.1,r.b,r.c,r.d,r.e)) fun s=>a (Sum.inr (s.1,zde x.b,zF3 r.F))) (k1 (x.1,x.C)))
def y1U k0 k1:=zI (@wj R k0 k1) zY
def ky (x:Qz1):Option yq0:=nz (zbd (yb (zG3 x 8)) fun r=>y1U (fun s=>zso (s.D,s.1,s.b,s.c)) (fun t=>zso t) (Sum.inl (zG4 r ([]:List yO))))
def yCX:List QF:=[q31,q51,yDY]
def ybV (t:yjx):St:=⟨.box 900 0::dd 2 (.own 10000000::vI t.1::dd 15 []),[(900,.box [y64 t.2.1,vI t.2.2.1,vI t.2.2.2.1]),(10000000,.root true 141 yr t.2.2.2.2)]⟩
theorem yt1: ∀ s t,unG ywm ybV s=some t→ybV t=s:=yn fun t=>by kernel_rfl
def ybW (t:yjy):St:=⟨.box 900 0::dd 2 (y5z t.1::vI t.2.1::dd 15 []),[(900,.box [y64 t.2.2.1,vI t.2.2.2.1,vI t.2.2.2.2])]⟩
theorem yt2: ∀ s t,unG ywn ybW s=some t→ybW t=s:=yn fun t=>by kernel_rfl
def ybX:(yjx ⊕ yjy)→St:=Sum.elim ybV ybW
def yfF (s:St):Option (yjx ⊕ yjy):=((unG ywm ybV s).map Sum.inl).or (((unG ywn ybW) s).map Sum.inr)
theorem yt3: ∀ s t,yfF s=some t→ybX t=s:=y5x yt1 yt2
def ymX:Gk wi:=fun κ=>wj (fun t=>κ (some 0) ⟨.box 900 0::dd 2 (.own 10000000::dd 16 []),[(900,.box [y64 t.1,vI t.2.1,vI t.2.2.1]),(10000000,.root true 141 yr t.2.2.2)]⟩) (fun t=>κ (some 0) ⟨.box 900 0::dd 2 (y5z t.1::dd 16 []),[(900,.box [y64 t.2.1,vI t.2.2.1,vI t.2.2.2])]⟩)
def yCY:Lp:=lpC 3 yfF @ymX lpN
theorem yt4:LF yCX yCY 94 3 Tryz.f94 0 ybX @ymX fun v:yjx=> .inl v:=fun R κ again v=>by kernel_rfl
theorem yt5:LF yCX yCY 94 3 Tryz.f94 0 ybX @ymX fun v:yjy=> .inr v:=fun R κ again v=>by kernel_rfl
theorem yJe:LF yCX yCY 94 3 Tryz.f94 0 ybX @ymX fun t=>t:=(LC.sum yt4 yt5)
theorem yJf:LK yCX yCY 94 Tryz.f94 0:=lkN (u:=yfF) yt3 yJe
theorem yP1:EV yCX yCY 94 Tryz.f94 yLJ qz1 yFb ky:=fun x=>by kernel_rfl
def q94:QF:=⟨94,ky,okN (n:=1) Tryz.func94 ⟨yJf,trivial⟩ yP1⟩
def j6 (x:List qN):Option ypY:=nz (zbd (K0 x) fun r=>zbd (ky r) fun s=>zbd (WN s.2) fun t=>zso (s.1,t.1,t.b,t.c,t.d,t.e))
theorem yP2:EV [q45,q73,q94] lpN 29 Tryz.f29 yLK [(.sl 5 Zo)] ypZ j6:=fun x=>by kernel_rfl
def q29:QF:=⟨29,j6,okN (n:=0) Tryz.func29 trivial yP2⟩
abbrev Vl:Type:=ylY
def Jh (k0:List yO→Option R) (a:Vl→Option R) (x:Vl):Option R:=nz (zlt x.c x.b (zix x.1 x.c (zbd (Yn ((yG x.1 x.c).C)) fun r=>zgd x.D ([((yG x.1 x.c).1,(yG x.1 x.c).b,r)]:List yO) 48 (a (x.1,x.b,zin x.c,x.D++([((yG x.1 x.c).1,(yG x.1 x.c).b,r)]:List yO))))) (k0 x.D))
def y11 k0:=zI (@Jh R k0) zY
def yQ (x:List yO):Option (List yO):=nz (y11 (fun r=>zso r) (x,x.z,0,([]:List yO)))
def yJg:List QF:=[yCa]
def yfG (t:ylY):St:=⟨dd 3 (.own 10000000::dd 3 (y5z t.1::vI t.2.1::vI t.2.2.1::dd 13 [])),[(10000000,.root true 141 yr t.2.2.2)]⟩
def yCZ:Gk Vl:=fun κ=>Jh (fun t=>κ (some 0) ⟨dd 3 (.own 10000000::dd 19 []),[(10000000,.root true 141 yr t)]⟩)
def yJh:Lp:=lpC 3 (unG ylZ yfG) @yCZ lpN
theorem yJi:LF yJg yJh 95 3 Tryz.f95 0 yfG @yCZ fun t=>t:=fun R κ again t=>by kernel_rfl
theorem yJj:LK yJg yJh 95 Tryz.f95 0:=lkN (u:=(unG ylZ yfG)) (yn fun t=>by kernel_rfl) yJi
theorem yP3:EV yJg yJh 95 Tryz.f95 yLL [(.sl 141 yr)] [(.sl 141 yr)] yQ:=fun x=>by kernel_rfl
def q95:QF:=⟨95,yQ,okN (n:=1) Tryz.func95 ⟨yJj,trivial⟩ yP3⟩
def VE (x:yFc):Option yvy:=nz (zso (x.1.toList==x.D.toList,x.D))
theorem yJk:EV [] lpN 264 Tryz.f264 yzx yFd yvz VE:=fun x=>by kernel_rfl
def yP4:QF:=⟨264,VE,okN (n:=0) Tryz.func264 trivial yJk⟩
abbrev Yi:Type:=ywo
def zd (k0:ylV→Option R) (k1:ByteArray→Option R) (a:Yi→Option R) (x:Yi):Option R:=nz (zlt x.c x.b (zix x.1 x.c (zbd (VE (zG3 (yG x.1 x.c) x.D)) fun r=>zif r.1 (k0 (x.c,r.2)) (a (x.1,x.b,zin x.c,r.2)))) (k1 x.D))
def ZA k0 k1:=zI (@zd R k0 k1) zY
def zn (x:yfr):Option ylV:=nz (ZA (fun r=>zso r) (fun s=>zso (-1,s)) (x.1,x.1.z,0,x.2))
def ybY:List QF:=[yP4]
def y4d (t:ywo):St:=⟨y5z t.1:: .clo 264 901::dd 5 (vI t.2.1::vI t.2.2.1::dd 10 []),[(901,.box [vS t.2.2.2])]⟩
def ydy:Gk Yi:=fun κ=>zd (fun t=>κ none ⟨.dead:: .clo 264 901::dd 2 (vI t.1::dd 14 []),[(901,.box [vS t.2])]⟩) (fun t=>κ (some 0) ⟨.dead:: .clo 264 901::dd 17 [],[(901,.box [vS t])]⟩)
def ybZ:Lp:=lpC 2 (unG ywp y4d) @ydy lpN
theorem ykn:LF ybY ybZ 100007 2 Tryz.f263 0 y4d @ydy fun t=>t:=fun R κ again t=>by kernel_rfl
theorem yko:LK ybY ybZ 100007 Tryz.f263 0:=lkN (u:=(unG ywp y4d)) (yn fun t=>by kernel_rfl) ykn
theorem ymY:EV ybY ybZ 100007 Tryz.f263 ygS yfs yvC zn:=fun x=>by kernel_rfl
def yt6:QF:=⟨100007,zn,okN (n:=1) Tryz.func263 ⟨yko,trivial⟩ ymY⟩
def jM (x:yfr):Option Int:=nz (zbd (zn x) fun r=>zso r.1)
theorem yJl:EV [yt6] lpN 193 Tryz.f193 yzy yfs [(.int .i64)] jM:=fun x=>by kernel_rfl
def yE2:QF:=⟨193,jM,okN (n:=0) Tryz.func193 trivial yJl⟩
abbrev wJ:Type:=yq1
def wK (k0:yq1→Option R) (a:wJ→Option R) (x:wJ):Option R:=nz (zam (decide (x.b>0)) (zix x.1 (zde x.b) (zso (!(Go.Op.bytesLess (((yG x.1 (zde x.b)).1).toList) x.c.toList||((yG x.1 (zde x.b)).1).toList==x.c.toList)))) fun r=>zif r (a (x.1,zde x.b,zF3 x.C)) (k0 x))
def y0d k0:=zI (@wK R k0) zY
def Zs (x:ywe):Option (List yO):=nz (y0d (fun r=>zbd (yQ r.1) fun s=>zbd (Yz (s,r.b,([r.C]:List yO))) fun t=>zso t) (x.1,x.1.z,zF3 x.2))
def yt7:List QF:=[q95,yMZ]
def yc0 (t:yq1):St:=⟨y5z t.1::dd 2 (.box 3 0:: .dead::vI t.2.1::dd 23 []),[(3,.box [vS t.2.2.1,vB t.2.2.2.1,z6 t.2.2.2.2])]⟩
def yoZ:Gk wJ:=fun κ=>wK (fun t=>κ (some 0) ⟨y5z t.1::dd 2 (.box 3 0:: .dead::vI t.2.1::dd 23 []),[(3,.box [vS t.2.2.1,vB t.2.2.2.1,z6 t.2.2.2.2])]⟩)
def yt8:Lp:=lpC 2 (unG ywq yc0) @yoZ lpN
theorem yD0:LF yt7 yt8 194 2 Tryz.f194 0 yc0 @yoZ fun t=>t:=fun R κ again t=>by kernel_rfl
theorem yD1:LK yt7 yt8 194 Tryz.f194 0:=lkN (u:=(unG ywq yc0)) (yn fun t=>by kernel_rfl) yD0
theorem yJm:EV yt7 yt8 194 Tryz.f194 yzz ywf [(.sl 141 yr)] Zs:=fun x=>by kernel_rfl
def yMC:QF:=⟨194,Zs,okN (n:=1) Tryz.func194 ⟨yD1,trivial⟩ yJm⟩
def wk (x:yi6):Option y6q:=nz (zbd (zr x.b) fun r=>zif (!r) (zbd (yQ x.1) fun s=>zso (s,1)) (zbd (jM (x.1,x.b)) fun t=>zge t 0 (zbd (yQ x.1) fun u=>zso (u,3)) (zbd (yx (x.C,1,12)) fun v=>zif (!v) (zbd (yQ x.1) fun w=>zso (w,4)) (zge x.1.z 6 (zbd (yQ x.1) fun p=>zso (p,6)) (if 0≤x.C then if x.C≤x.C then if x.C*((8:Nat):Int)≤140737488351232 then zbd (Zs (x.1,x.b,false,List.replicate x.C.toNat y2d)) fun q=>zso (q,0) else none else none else none)))))
theorem yP5:EV [q35,q95,yl2,yE2,yMC] lpN 96 Tryz.f96 yLM yi7 y6r wk:=fun x=>by kernel_rfl
def q96:QF:=⟨96,wk,okN (n:=0) Tryz.func96 trivial yP5⟩
def kz (x:ywg):Option y6q:=nz (zbd (jM (x.1,x.b)) fun r=>zbd (zr x.b) fun s=>zom (!s) (zbd (zr x.c) fun t=>zso (!t)) fun u=>zif u (zbd (yQ x.1) fun v=>zso (v,1)) (zlt r 0 (zbd (yQ x.1) fun w=>zso (w,2)) (zbd (jM (x.1,x.c)) fun p=>zge p 0 (zbd (yQ x.1) fun q=>zso (q,3)) (zge x.1.z 6 (zbd (yQ x.1) fun m=>zso (m,6)) (zix x.1 r (zbd (Yn ((yG x.1 r).C)) fun n=>zbd (Zs (x.1,x.c,x.D,n)) fun o=>zso (o,0)))))))
theorem yP6:EV [q95,yl2,yCa,yE2,yMC] lpN 97 Tryz.f97 yLN ywh y6r kz:=fun x=>by kernel_rfl
def q97:QF:=⟨97,kz,okN (n:=0) Tryz.func97 trivial yP6⟩
def kC (x:yfr):Option y6q:=nz (zbd (jM x) fun r=>zbd (zr x.2) fun s=>zif (!s) (zbd (yQ x.1) fun t=>zso (t,1)) (zlt r 0 (zbd (yQ x.1) fun u=>zso (u,2)) (zbd (yQ x.1) fun v=>zbd (Z6 (v,r,zin r)) fun w=>zso (w,0))))
theorem yP7:EV [q95,yl2,yE2,yN0] lpN 98 Tryz.f98 yLO yfs y6r kC:=fun x=>by kernel_rfl
def q98:QF:=⟨98,kC,okN (n:=0) Tryz.func98 trivial yP7⟩
def ZO (x:yfr):Option yiq:=nz (zbd (jM x) fun r=>zbd (zr x.2) fun s=>zif (!s) (zso (r,1)) (zlt r 0 (zso (r,2)) (zix x.1 r (zif ((yG x.1 r).b) (zso (r,5)) (zso (r,0))))))
theorem yJn:EV [yl2,yE2] lpN 196 Tryz.f196 yzA yfs ylM ZO:=fun x=>by kernel_rfl
def yMD:QF:=⟨196,ZO,okN (n:=0) Tryz.func196 trivial yJn⟩
abbrev wB:Type:=ylY
def Z1 (k0:List yO→Option R) (a:wB→Option R) (x:wB):Option R:=nz (zlt x.c x.b (zix x.1 x.c (zbd (Yn ((yG x.1 x.c).C)) fun r=>zgd x.D ([((yG x.1 x.c).1,(yG x.1 x.c).b,r)]:List yO) 48 (a (x.1,x.b,zin x.c,x.D++([((yG x.1 x.c).1,(yG x.1 x.c).b,r)]:List yO))))) (k0 x.D))
def vQ k0:=zI (@Z1 R k0) zY
def ZB (x:List yO):Option (List yO):=nz (vQ (fun r=>zso r) (x,x.z,0,([]:List yO)))
def yc1:List QF:=[yCa]
def y4e (t:ylY):St:=⟨dd 3 (.own 10000000::dd 3 (y5z t.1::vI t.2.1::vI t.2.2.1::dd 13 [])),[(10000000,.deep true 0 141 yr t.2.2.2)]⟩
def ydz:Gk wB:=fun κ=>Z1 (fun t=>κ (some 0) ⟨dd 3 (.own 10000000::dd 19 []),[(10000000,.deep true 0 141 yr t)]⟩)
def yc2:Lp:=lpC 3 (unG ylZ y4e) @ydz lpN
theorem ykp:LF yc1 yc2 100008 3 Tryz.f95 0 y4e @ydz fun t=>t:=fun R κ again t=>by kernel_rfl
theorem ykq:LK yc1 yc2 100008 Tryz.f95 0:=lkN (u:=(unG ylZ y4e)) (yn fun t=>by kernel_rfl) ykp
theorem ymZ:EV yc1 yc2 100008 Tryz.f95 ygT [(.sl 141 yr)] [(.sl 141 yr)] ZB:=fun x=>by kernel_rfl
def yt9:QF:=⟨100008,ZB,okN (n:=1) Tryz.func95 ⟨ykq,trivial⟩ ymZ⟩
def Ji (x:ywi):Option y6q:=nz (zbd (ZB x.1) fun r=>zbd (ZO (x.1,x.b)) fun s=>zne s.2 0 (zso (r,s.2)) (zix x.1 s.1 (zbd (yx (x.c,0,zde ((List.length ((yG x.1 s.1).C):Nat):Int))) fun t=>zom (!t) (zbd (Ze x.D) fun u=>zso (!u)) fun v=>zif v (zso (r,4)) (zix r s.1 (if 0≤x.c then if x.c<((List.length ((yG r s.1).C):Nat):Int) then zso (zup r s.1 ((yG r s.1).1,(yG r s.1).b,zup ((yG r s.1).C) x.c x.D),0) else none else none)))))
theorem yP8:EV [q35,yBT,yMD,yt9] lpN 99 Tryz.f99 yLP ywj y6r Ji:=fun x=>by kernel_rfl
def q99:QF:=⟨99,Ji,okN (n:=0) Tryz.func99 trivial yP8⟩
def wl (x:yi6):Option y6q:=nz (zbd (yQ x.1) fun r=>zbd (ZO (x.1,x.b)) fun s=>zne s.2 0 (zso (r,s.2)) (zbd (yx (x.C,1,12)) fun t=>zif (!t) (zso (r,4)) (if 0≤x.C then if x.C≤x.C then if x.C*((8:Nat):Int)≤140737488351232 then zix x.1 s.1 (zix r s.1 (zso (zup r s.1 ((yG r s.1).1,(yG r s.1).b,List.take (List.length (List.replicate x.C.toNat y2d)) ((yG x.1 s.1).C)++List.drop (List.length ((yG x.1 s.1).C)) (List.replicate x.C.toNat y2d)),0))) else none else none else none)))
theorem yJo:EV [q35,q95,yMD] lpN 100 Tryz.f100 yzB yi7 y6r wl:=fun x=>by kernel_rfl
def yP9:QF:=⟨100,wl,okN (n:=0) Tryz.func100 trivial yJo⟩
def Wp (x:ypY):Option y6q:=nz (zbd (Vg x.2) fun r=>zif (!r) (zbd (yQ x.1) fun s=>zso (s,1)) (zeq x.b 1 (zbd (wk (x.1,x.c,x.e)) fun t=>zso t) (zeq x.b 2 (zbd (kz (x.1,x.c,x.d,x.F==1)) fun u=>zso u) (zeq x.b 3 (zbd (kC (x.1,x.c)) fun v=>zso v) (zeq x.b 4 (zbd (Ji (x.1,x.c,x.E)) fun w=>zso w) (zeq x.b 5 (zbd (Ji (x.1,x.c,x.e,0)) fun p=>zso p) (zeq x.b 6 (zbd (wl (x.1,x.c,x.e)) fun q=>zso q) (zbd (yQ x.1) fun m=>zso (m,0)))))))))
theorem yPa:EV [q74,q95,q96,q97,q98,q99,yP9] lpN 30 Tryz.f30 yLQ ypZ y6r Wp:=fun x=>by kernel_rfl
def q30:QF:=⟨30,Wp,okN (n:=0) Tryz.func30 trivial yPa⟩
abbrev Vm:Type:=ywr
def Jj (k0:Bool→Option R) (k1:Unit→Option R) (a:Vm→Option R) (x:Vm):Option R:=nz (zlt x.C x.1.z (zix x.1 x.C (zix x.b x.C (zif (zB x.1 x.C !=zB x.b x.C) (k0 false) (a (x.1,x.b,zin x.C))))) (k1 ()))
def y12 k0 k1:=zI (@Jj R k0 k1) zY
def j7 (x:yFe):Option Bool:=nz (zif (x.1.z !=x.2.z) (zso false) (y12 (fun r=>zso r) (fun s=>zso true) (x.1,x.2,0)))
def yta:List QF:=[]
def yc3 (t:ywr):St:=⟨z6 t.1::z6 t.2.1::dd 3 (vI t.2.2::dd 20 []),[]⟩
def yp0:Gk Vm:=fun κ=>Jj (fun t=>κ none ⟨dd 4 (vB t::dd 21 []),[]⟩) (fun t=>κ (some 0) ⟨dd 26 [],[]⟩)
def ytb:Lp:=lpC 4 (unG yws yc3) @yp0 lpN
theorem yD2:LF yta ytb 110 4 Tryz.f110 0 yc3 @yp0 fun t=>t:=fun R κ again t=>by kernel_rfl
theorem yD3:LK yta ytb 110 Tryz.f110 0:=lkN (u:=(unG yws yc3)) (yn fun t=>by kernel_rfl) yD2
theorem yJp:EV yta ytb 110 Tryz.f110 yzC yFf [.bool] j7:=fun x=>by kernel_rfl
def yME:QF:=⟨110,j7,okN (n:=1) Tryz.func110 ⟨yD3,trivial⟩ yJp⟩
abbrev Vn:Type:=ywt
def Jk (k0:Bool→Option R) (k1:Unit→Option R) (a:Vn→Option R) (x:Vn):Option R:=nz (zlt x.C x.1.z (zix x.1 x.C (zix x.b x.C (zif (!((yi x.1 x.C).1==(yi x.b x.C).1&&((yi x.1 x.C).b==(yi x.b x.C).b&&((yi x.1 x.C).c==(yi x.b x.C).c&&((yi x.1 x.C).d==(yi x.b x.C).d&&((yi x.1 x.C).E==(yi x.b x.C).E&&true)))))) (k0 false) (a (x.1,x.b,zin x.C))))) (k1 ()))
def y13 k0 k1:=zI (@Jk R k0 k1) zY
def Wq (x:yEf):Option Bool:=nz (zif (x.1.z !=x.2.z) (zso false) (y13 (fun r=>zso r) (fun s=>zso true) (x.1,x.2,0)))
def ytc:List QF:=[]
def yc4 (t:ywt):St:=⟨y0M t.1::y0M t.2.1::dd 3 (vI t.2.2::dd 20 []),[]⟩
def yp1:Gk Vn:=fun κ=>Jk (fun t=>κ none ⟨dd 4 (vB t::dd 21 []),[]⟩) (fun t=>κ (some 0) ⟨dd 26 [],[]⟩)
def ytd:Lp:=lpC 4 (unG ywu yc4) @yp1 lpN
theorem yD4:LF ytc ytd 266 4 Tryz.f266 0 yc4 @yp1 fun t=>t:=fun R κ again t=>by kernel_rfl
theorem yD5:LK ytc ytd 266 Tryz.f266 0:=lkN (u:=(unG ywu yc4)) (yn fun t=>by kernel_rfl) yD4
theorem yJq:EV ytc ytd 266 Tryz.f266 yzD yEg [.bool] Wq:=fun x=>by kernel_rfl
def yPb:QF:=⟨266,Wq,okN (n:=1) Tryz.func266 ⟨yD5,trivial⟩ yJq⟩
abbrev Vo:Type:=ypH
def Jl (k0:Bool→Option R) (k1:Unit→Option R) (a:Vo→Option R) (x:Vo):Option R:=nz (zlt x.1 x.b.z (zix x.b x.1 (zix x.C x.1 (zbd (Wq (yu x.b x.1,yu x.C x.1)) fun r=>zif (!r) (k0 false) (a (zin x.1,x.b,x.C))))) (k1 ()))
def y14 k0 k1:=zI (@Jl R k0 k1) zY
def Wr (x:yFg):Option Bool:=nz (zif (x.1.z !=x.2.z) (zso false) (y14 (fun r=>zso r) (fun s=>zso true) (0,x.1,x.2)))
def yte:List QF:=[yPb]
def yc5 (t:ypH):St:=⟨dd 2 (.box 2 0:: .box 3 0:: .dead::vI t.1::dd 26 []),[(2,.box [Zh t.2.1]),(3,.box [Zh t.2.2])]⟩
def yp2:Gk Vo:=fun κ=>Jl (fun t=>κ none ⟨dd 4 (vB t::dd 27 []),[]⟩) (fun t=>κ (some 0) ⟨dd 32 [],[]⟩)
def ytf:Lp:=lpC 4 (unG yDI yc5) @yp2 lpN
theorem yD6:LF yte ytf 200 4 Tryz.f200 0 yc5 @yp2 fun t=>t:=fun R κ again t=>by kernel_rfl
theorem yD7:LK yte ytf 200 Tryz.f200 0:=lkN (u:=(unG yDI yc5)) (yn fun t=>by kernel_rfl) yD6
theorem yJr:EV yte ytf 200 Tryz.f200 yzE yFh [.bool] Wr:=fun x=>by kernel_rfl
def yPc:QF:=⟨200,Wr,okN (n:=1) Tryz.func200 ⟨yD7,trivial⟩ yJr⟩
abbrev Vp:Type:=ypI
def Jm (k0:Bool→Option R) (k1:Unit→Option R) (a:Vp→Option R) (x:Vp):Option R:=nz (zlt x.1 x.c.z (zix x.c x.1 (zix x.E x.1 (zbd (Wr (yk x.c x.1,yk x.E x.1)) fun r=>zif (!r) (k0 false) (a (zin x.1,zF4 x.2))))) (k1 ()))
def y15 k0 k1:=zI (@Jm R k0 k1) zY
def Ws (x:yFi):Option Bool:=nz (zbd (j7 (x.1,x.c)) fun r=>zor (!r) (x.b.z !=x.D.z) fun s=>zif s (zso false) (y15 (fun t=>zso t) (fun u=>zso true) (0,zF4 x)))
def ytg:List QF:=[yME,yPc]
def yc6 (t:ypI):St:=⟨dd 2 (.box 2 0:: .box 3 0:: .dead::vI t.1::dd 34 []),[(2,.box [z6 t.2.1,yA t.2.2.1]),(3,.box [z6 t.2.2.2.1,yA t.2.2.2.2])]⟩
def yp3:Gk Vp:=fun κ=>Jm (fun t=>κ none ⟨dd 4 (vB t::dd 35 []),[]⟩) (fun t=>κ (some 0) ⟨dd 40 [],[]⟩)
def yth:Lp:=lpC 4 (unG yDJ yc6) @yp3 lpN
theorem yD8:LF ytg yth 107 4 Tryz.f107 0 yc6 @yp3 fun t=>t:=fun R κ again t=>by kernel_rfl
theorem yD9:LK ytg yth 107 Tryz.f107 0:=lkN (u:=(unG yDJ yc6)) (yn fun t=>by kernel_rfl) yD8
theorem yJs:EV ytg yth 107 Tryz.f107 yzF yFj [.bool] Ws:=fun x=>by kernel_rfl
def yPd:QF:=⟨107,Ws,okN (n:=1) Tryz.func107 ⟨yD9,trivial⟩ yJs⟩
abbrev Vq:Type:=ywv
def Jn (k0:Bool→Option R) (k1:Unit→Option R) (a:Vq→Option R) (x:Vq):Option R:=nz (zlt x.C x.1.z (zix x.1 x.C (zix x.b x.C (zif (!((yD x.1 x.C).1==(yD x.b x.C).1&&((yD x.1 x.C).2==(yD x.b x.C).2&&true))) (k0 false) (a (x.1,x.b,zin x.C))))) (k1 ()))
def y16 k0 k1:=zI (@Jn R k0 k1) zY
def Wt (x:yFk):Option Bool:=nz (zif (x.1.z !=x.2.z) (zso false) (y16 (fun r=>zso r) (fun s=>zso true) (x.1,x.2,0)))
def yti:List QF:=[]
def yc7 (t:ywv):St:=⟨zl t.1::zl t.2.1::dd 3 (vI t.2.2::dd 20 []),[]⟩
def yp4:Gk Vq:=fun κ=>Jn (fun t=>κ none ⟨dd 4 (vB t::dd 21 []),[]⟩) (fun t=>κ (some 0) ⟨dd 26 [],[]⟩)
def ytj:Lp:=lpC 4 (unG yww yc7) @yp4 lpN
theorem yDa:LF yti ytj 108 4 Tryz.f108 0 yc7 @yp4 fun t=>t:=fun R κ again t=>by kernel_rfl
theorem yDb:LK yti ytj 108 Tryz.f108 0:=lkN (u:=(unG yww yc7)) (yn fun t=>by kernel_rfl) yDa
theorem yJt:EV yti ytj 108 Tryz.f108 yzG yFl [.bool] Wt:=fun x=>by kernel_rfl
def yPe:QF:=⟨108,Wt,okN (n:=1) Tryz.func108 ⟨yDb,trivial⟩ yJt⟩
abbrev vD:Type:=ywx
def jN (k0:Bool→Option R) (k1:Unit→Option R) (a:vD→Option R) (x:vD):Option R:=nz (zlt x.C x.1.z (zix x.1 x.C (zix x.b x.C (zif (!((ym x.1 x.C).1==(ym x.b x.C).1&&((ym x.1 x.C).b==(ym x.b x.C).b&&((ym x.1 x.C).C==(ym x.b x.C).C&&true)))) (k0 false) (a (x.1,x.b,zin x.C))))) (k1 ()))
def y0e k0 k1:=zI (@jN R k0 k1) zY
def wm (x:yFm):Option Bool:=nz (zif (x.1.z !=x.2.z) (zso false) (y0e (fun r=>zso r) (fun s=>zso true) (x.1,x.2,0)))
def ytk:List QF:=[]
def yc8 (t:ywx):St:=⟨yU t.1::yU t.2.1::dd 3 (vI t.2.2::dd 20 []),[]⟩
def yp5:Gk vD:=fun κ=>jN (fun t=>κ none ⟨dd 4 (vB t::dd 21 []),[]⟩) (fun t=>κ (some 0) ⟨dd 26 [],[]⟩)
def ytl:Lp:=lpC 4 (unG ywy yc8) @yp5 lpN
theorem yDc:LF ytk ytl 109 4 Tryz.f109 0 yc8 @yp5 fun t=>t:=fun R κ again t=>by kernel_rfl
theorem yDd:LK ytk ytl 109 Tryz.f109 0:=lkN (u:=(unG ywy yc8)) (yn fun t=>by kernel_rfl) yDc
theorem yJu:EV ytk ytl 109 Tryz.f109 yzH yFn [.bool] wm:=fun x=>by kernel_rfl
def yPf:QF:=⟨109,wm,okN (n:=1) Tryz.func109 ⟨yDd,trivial⟩ yJu⟩
abbrev Vr:Type:=ywz
def Jo (k0:Bool→Option R) (k1:Unit→Option R) (a:Vr→Option R) (x:Vr):Option R:=nz (zlt x.1 x.f.z (zix x.f x.1 (zix x.l x.1 (zif (!(((yd x.f x.1).1).toList==((yd x.l x.1).1).toList&&((yd x.f x.1).b==(yd x.l x.1).b&&((yd x.f x.1).c==(yd x.l x.1).c&&((yd x.f x.1).D==(yd x.l x.1).D&&true))))) (k0 false) (a (zin x.1,yFz x.2))))) (k1 ()))
def Vs k0 k1:=zI (@Jo R k0 k1) zY
def YN (x:yFo):Option Bool:=nz (zbd (Ws (x.1,x.b,x.g,x.h)) fun r=>zom (!r) (zbd (Wt (x.c,x.i)) fun s=>zso (!s)) fun t=>zom t (zbd (wm (x.d,x.j)) fun u=>zso (!u)) fun v=>zor v (x.e.z !=x.k.z) fun w=>zor w (x.f !=x.L) fun p=>zif p (zso false) (Vs (fun q=>zso q) (fun m=>zso true) (0,yFz x)))
def yJv:List QF:=[yPd,yPe,yPf]
def yfH (t:ywz):St:=⟨dd 2 (.box 2 0:: .box 3 0:: .dead::vI t.1::dd 56 []),[(2,.box [z6 t.2.1,yA t.2.2.1,zl t.2.2.2.1,yU t.2.2.2.2.1,Y6 t.2.2.2.2.2.1,vI t.2.2.2.2.2.2.1]),(3,.box [z6 t.2.2.2.2.2.2.2.1,yA t.2.2.2.2.2.2.2.2.1,zl t.2.2.2.2.2.2.2.2.2.1,yU t.2.2.2.2.2.2.2.2.2.2.1,Y6 t.2.2.2.2.2.2.2.2.2.2.2.1,vI t.2.2.2.2.2.2.2.2.2.2.2.2])]⟩
def yDe:Gk Vr:=fun κ=>Jo (fun t=>κ none ⟨dd 4 (vB t::dd 57 []),[]⟩) (fun t=>κ (some 0) ⟨dd 62 [],[]⟩)
def yJw:Lp:=lpC 4 (unG ywA yfH) @yDe lpN
theorem yJx:LF yJv yJw 32 4 Tryz.f32 0 yfH @yDe fun t=>t:=fun R κ again t=>by kernel_rfl
theorem yJy:LK yJv yJw 32 Tryz.f32 0:=lkN (u:=(unG ywA yfH)) (yn fun t=>by kernel_rfl) yJx
theorem yPg:EV yJv yJw 32 Tryz.f32 yLR yFp [.bool] YN:=fun x=>by kernel_rfl
def q32:QF:=⟨32,YN,okN (n:=1) Tryz.func32 ⟨yJy,trivial⟩ yPg⟩
abbrev Vt:Type:=yjz ⊕ yjA
def Za (k0:ywc→Option R) (k1:yFq→Option R) (a:Vt→Option R):Vt→Option R
 | .inl x=>nz (zan (decide (x.b<x.1.z)) (decide (x.b<200)) fun r=>zif r (zix x.1 x.b (zbd (zQ (zG5 x.E (x.d,zF5 (vN x.1 x.b)))) fun s=>a (Sum.inr (x.1,zin x.b,x.c,zT3 s (s.f,s.d,s.e))))) (k0 x.C))
 | .inr x=>nz (zan (decide (x.b<x.1.z)) (decide (x.b<200)) fun r=>zif r (zix x.1 x.b (zbd (zQ (zT3 x.D (x.h,x.I,x.g,zF5 (vN x.1 x.b)))) fun s=>a (Sum.inr (x.1,zin x.b,x.c,zT3 s (s.f,s.d,s.e))))) (k1 x.C))
def y17 k0 k1:=zI (@Za R k0 k1) zY
def Jp (x:ypS):Option y7P:=nz (zbd (yo (x.1,x.b,x.c,x.d,x.e,x.f)) fun r=>y17 (fun s=>zso (zG5 s.C s.b)) (fun t=>zso (zT3 t.2 (t.f,t.G,t.e))) (Sum.inl (x.G,0,0,r.F,r.1,r.b,r.c,r.d,r.e)))
def yDf:List QF:=[q28,q86]
def yc9 (t:yjz):St:=⟨.dead::yDz t.1::dd 2 (.box 4 0:: .box 5 0::vI t.2.1::dd 22 []),[(4,.box [.nils,.nils,.nils,.nils,.nils,vI t.2.2.1]),(5,.box [.own 10000000,.own 10000001,.own 10000002,.own 10000003,.own 10000004,vI t.2.2.2.1]),(10000000,.root true 3 yg t.2.2.2.2.1),(10000001,.root true 88 yj t.2.2.2.2.2.1),(10000002,.root true 79 yh t.2.2.2.2.2.2.1),(10000003,.root true 85 yc t.2.2.2.2.2.2.2.1),(10000004,.root true 81 yt t.2.2.2.2.2.2.2.2)]⟩
theorem ytm: ∀ s t,unG ywB yc9 s=some t→yc9 t=s:=yn fun t=>by kernel_rfl
def yca (t:yjA):St:=⟨.dead::yDz t.1::dd 2 (.box 4 0:: .box 5 0::vI t.2.1::dd 22 []),[(4,.box [.nils,.nils,.nils,.nils,.nils,vI t.2.2.1]),(5,.box [z6 t.2.2.2.1,yA t.2.2.2.2.1,zl t.2.2.2.2.2.1,.own 10000000,.own 10000001,vI t.2.2.2.2.2.2.1]),(10000000,.root true 85 yc t.2.2.2.2.2.2.2.1),(10000001,.root true 81 yt t.2.2.2.2.2.2.2.2)]⟩
theorem ytn: ∀ s t,unG ywC yca s=some t→yca t=s:=yn fun t=>by kernel_rfl
def ycb:(yjz ⊕ yjA)→St:=Sum.elim yc9 yca
def yfI (s:St):Option (yjz ⊕ yjA):=((unG ywB yc9 s).map Sum.inl).or (((unG ywC yca) s).map Sum.inr)
theorem yto: ∀ s t,yfI s=some t→ycb t=s:=y5x ytm ytn
def yn0:Gk Vt:=fun κ=>Za (fun t=>κ (some 0) ⟨dd 4 (.box 4 0:: .box 5 0::dd 23 []),[(4,.box [.nils,.nils,.nils,.nils,.nils,vI t.1]),(5,.box [.own 10000000,.own 10000001,.own 10000002,.own 10000003,.own 10000004,vI t.2.1]),(10000000,.root true 3 yg t.2.2.1),(10000001,.root true 88 yj t.2.2.2.1),(10000002,.root true 79 yh t.2.2.2.2.1),(10000003,.root true 85 yc t.2.2.2.2.2.1),(10000004,.root true 81 yt t.2.2.2.2.2.2)]⟩) (fun t=>κ (some 0) ⟨dd 4 (.box 4 0:: .box 5 0::dd 23 []),[(4,.box [.nils,.nils,.nils,.nils,.nils,vI t.1]),(5,.box [z6 t.2.1,yA t.2.2.1,zl t.2.2.2.1,.own 10000000,.own 10000001,vI t.2.2.2.2.1]),(10000000,.root true 85 yc t.2.2.2.2.2.1),(10000001,.root true 81 yt t.2.2.2.2.2.2)]⟩)
def yDg:Lp:=lpC 3 yfI @yn0 lpN
theorem ytp:LF yDf yDg 33 3 Tryz.f33 0 ycb @yn0 fun v:yjz=> .inl v:=fun R κ again v=>by kernel_rfl
theorem ytq:LF yDf yDg 33 3 Tryz.f33 0 ycb @yn0 fun v:yjA=> .inr v:=fun R κ again v=>by kernel_rfl
theorem yJz:LF yDf yDg 33 3 Tryz.f33 0 ycb @yn0 fun t=>t:=(LC.sum ytp ytq)
theorem yJA:LK yDf yDg 33 Tryz.f33 0:=lkN (u:=yfI) yto yJz
theorem yPh:EV yDf yDg 33 Tryz.f33 yLS ypT Z0 Jp:=fun x=>by kernel_rfl
def q33:QF:=⟨33,Jp,okN (n:=1) Tryz.func33 ⟨yJA,trivial⟩ yPh⟩
abbrev WO:Type:=ywD
def WP (k0:Bool→Option R) (k1:Unit→Option R) (a:WO→Option R) (x:WO):Option R:=nz (zlt x.C x.1.z (zix x.1 x.C (zix x.b x.C (zom (!(((yG x.1 x.C).1).toList==((yG x.b x.C).1).toList)) (zix x.1 x.C (zix x.b x.C (zso (!((yG x.1 x.C).b==(yG x.b x.C).b))))) fun r=>zom r (zix x.1 x.C (zix x.b x.C (zbd (j7 ((yG x.1 x.C).C,(yG x.b x.C).C)) fun s=>zso (!s)))) fun t=>zif t (k0 false) (a (x.1,x.b,zin x.C))))) (k1 ()))
def y18 k0 k1:=zI (@WP R k0 k1) zY
def Jq (x:yFr):Option Bool:=nz (zif (x.1.z !=x.2.z) (zso false) (y18 (fun r=>zso r) (fun s=>zso true) (x.1,x.2,0)))
def yJB:List QF:=[yME]
def yfJ (t:ywD):St:=⟨y5z t.1::y5z t.2.1::dd 3 (vI t.2.2::dd 49 []),[]⟩
def yDh:Gk WO:=fun κ=>WP (fun t=>κ none ⟨dd 4 (vB t::dd 50 []),[]⟩) (fun t=>κ (some 0) ⟨dd 55 [],[]⟩)
def yJC:Lp:=lpC 4 (unG ywE yfJ) @yDh lpN
theorem yJD:LF yJB yJC 34 4 Tryz.f34 0 yfJ @yDh fun t=>t:=fun R κ again t=>by kernel_rfl
theorem yJE:LK yJB yJC 34 Tryz.f34 0:=lkN (u:=(unG ywE yfJ)) (yn fun t=>by kernel_rfl) yJD
theorem yPi:EV yJB yJC 34 Tryz.f34 yLT yFs [.bool] Jq:=fun x=>by kernel_rfl
def q34:QF:=⟨34,Jq,okN (n:=1) Tryz.func34 ⟨yJE,trivial⟩ yPi⟩
def Zt (x:List qN):Option Bool:=nz (zbd (y3j x) fun r=>zOm r (zbd (ZV x) fun s=>zbd (YM s) fun t=>zbd (y2g (x,2)) fun u=>if zin s.G.z=0 then none else zsl 0 (Int.tmod u (zin s.G.z)) s.G.z (zbd (YM (zT6 s (zcu s.G 0 (Int.tmod u (zin s.G.z))))) fun v=>zsl (Int.tmod u (zin s.G.z)) s.G.z s.G.z (zbd (YM (zG6 v (zcu s.G (Int.tmod u (zin s.G.z)) s.G.z))) fun w=>zbd (wd x) fun p=>zbd (jL p) fun q=>zbd (zQ p) fun m=>zbd (j6 x) fun n=>zbd (Wp n) fun o=>zbd (Zl n) fun e=>zbd (YN (zG6 t w)) fun f=>zif f (zbd (Jp s) fun g=>zbd (YN (zG6 t g)) fun h=>zan h (q.G==m.G) fun i=>zam i (zbd (YN (zT6 q (m.1,m.b,m.c,m.d,m.e,m.f))) fun j=>zso j) fun l=>zan l (o.2==e.2) fun y=>zam y (zbd (Jq (o.1,e.1)) fun z=>zso z) fun b=>zso b) (zbd (zso false) fun c=>zam c (zbd (YN (zT6 q (m.1,m.b,m.c,m.d,m.e,m.f))) fun d=>zso d) fun R=>zan R (o.2==e.2) fun A=>zam A (zbd (Jq (o.1,e.1)) fun B=>zso B) fun C=>zso C)))))
theorem ev4:EV [q5,q9,q24,q25,q26,q27,q28,q29,q30,q31,q32,q33,q34] lpN 4 Tryz.f4 sg4 [(.sl 5 Zo)] [.bool] Zt:=fun x=>by kernel_rfl
def q4:QF:=⟨4,Zt,okN (n:=0) Tryz.func4 trivial ev4⟩
end
end Go.Proofs.YtekbnpmmjciloaaGreat.XA
