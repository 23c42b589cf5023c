/- What functions compute, and that they do; part 1 of N; by a program (dec.py). No condition. -/
import Derived.Test.YtmapoakbdgpamaaGreatDN0
set_option linter.all false
namespace Go.Proofs.YtmapoakbdgpamaaGreat.XN
open Go.Proofs.YtmapoakbdgpamaaGreat.R
set_option maxRecDepth 100000
noncomputable section
variable {R : Type}
abbrev W1 : Type := ymy
def j8 (k0 : ymA → Option R) (again : W1 → Option R) (t2 : W1) : Option R :=
 bif (decide (t2.2.1 < (List.length t2.2.2 : Int))) then if (0 : Int) ≤ t2.2.1 then if t2.2.1 < (List.length t2.2.2 : Int) then Option.bind (Yo ((yn t2.2.2 t2.2.1), t2.1)) fun r1 => again (r1.1, (Go.IntKind.wrap .i64 (t2.2.1 + (1 : Int))), (List.set t2.2.2 (Int.toNat t2.2.1) r1.2)) else none else none else k0 (t2.1, t2.2.2)
def V0 k0 := z6 (@j8 R k0) zd
def ZM (x : ymB) : Option ymA :=
 V0 (fun x2 => some x2) (x.2, (0 : Int), x.1)
def yku : List QF := [yBB]
def y7f (t : ymy) : St := ⟨.own 10000000 :: vI t.1 :: dd 3 (vI t.2.1 :: dd 14 []), [(10000000, .deep true 1 98 yk t.2.2)]⟩
def yi9 : Gk W1 := fun κ => j8 (fun t => κ (some 0) ⟨.own 10000000 :: vI t.1 :: dd 18 [], [(10000000, .deep true 1 98 yk t.2)]⟩)
def ykv : Lp := lpC 2 (unG ymz y7f) @yi9 lpN
theorem yrJ : LF yku ykv 145 2 Tryz.f145 0 y7f @yi9 fun t => t := fun R κ again t => by kernel_rfl
theorem yrK : LK yku ykv 145 Tryz.f145 0 := lkN (u := (unG ymz y7f)) (yf fun t => by kernel_rfl) yrJ
theorem ywb : EV yku ykv 145 Tryz.f145 yp4 ymC ytw ZM := fun x => by kernel_rfl
def yBC : QF := ⟨145, ZM, okN (n := 1) Tryz.func145 ⟨yrK, trivial⟩ ywb⟩
def W2 (x : ysm) : Option ysR :=
 Option.bind (jG (x.1, x.2.2)) fun r1 => Option.bind (ZM (x.2.1, r1.1)) fun r2 => some (r2.1, r1.2, r2.2)
theorem yBD : EV [yBz, yBC] lpN 65 Tryz.f65 yyX ysn ysS W2 := fun x => by kernel_rfl
def q65 : QF := ⟨65, W2, okN (n := 0) Tryz.func65 trivial yBD⟩
abbrev kf : Type := ymD
def Z4 (k0 : ymF → Option R) (again : kf → Option R) (t2 : kf) : Option R :=
 bif (decide (t2.2.1 < (List.length t2.2.2 : Int))) then if (0 : Int) ≤ t2.2.1 then if t2.2.1 < (List.length t2.2.2 : Int) then if (0 : Int) ≤ t2.2.1 then if t2.2.1 < ((List.length (List.set t2.2.2 (Int.toNat t2.2.1) (t2.1, (z8 t2.2.2 t2.2.1).2)) : Nat) : Int) then again ((Go.IntKind.wrap .i64 ((Go.IntKind.wrap .i64 (t2.1 + (1 : Int))) + (1 : Int))), (Go.IntKind.wrap .i64 (t2.2.1 + (1 : Int))), (List.set (List.set t2.2.2 (Int.toNat t2.2.1) (t2.1, (z8 t2.2.2 t2.2.1).2)) (Int.toNat t2.2.1) ((z8 (List.set t2.2.2 (Int.toNat t2.2.1) (t2.1, (z8 t2.2.2 t2.2.1).2)) t2.2.1).1, (Go.IntKind.wrap .i64 (t2.1 + (1 : Int)))))) else none else none else none else none else k0 (t2.1, t2.2.2)
def VI k0 := z6 (@Z4 R k0) zd
def jH (x : yfC) : Option ymF :=
 VI (fun x1 => some x1) (x.2, (0 : Int), x.1)
def ywc : List QF := []
def ya3 (t : ymD) : St := ⟨.own 10000000 :: vI t.1 :: dd 3 (vI t.2.1 :: dd 21 []), [(10000000, .deep true 1 89 yG t.2.2)]⟩
def yrL : Gk kf := fun κ => Z4 (fun t => κ (some 0) ⟨.own 10000000 :: vI t.1 :: dd 25 [], [(10000000, .deep true 1 89 yG t.2)]⟩)
def ywd : Lp := lpC 2 (unG ymE ya3) @yrL lpN
theorem ywe : LF ywc ywd 66 2 Tryz.f66 0 ya3 @yrL fun t => t := fun R κ again t => by kernel_rfl
theorem ywf : LK ywc ywd 66 Tryz.f66 0 := lkN (u := (unG ymE ya3)) (yf fun t => by kernel_rfl) ywe
theorem yBE : EV ywc ywd 66 Tryz.f66 yyY yfD ytx jH := fun x => by kernel_rfl
def q66 : QF := ⟨66, jH, okN (n := 1) Tryz.func66 ⟨ywf, trivial⟩ yBE⟩
abbrev W3 : Type := ymG
def Yy (k0 : ymI → Option R) (again : W3 → Option R) (t2 : W3) : Option R :=
 bif (decide (t2.2.1 < (List.length t2.2.2 : Int))) then if (0 : Int) ≤ t2.2.1 then if t2.2.1 < (List.length t2.2.2 : Int) then if (0 : Int) ≤ t2.2.1 then if t2.2.1 < ((List.length (List.set t2.2.2 (Int.toNat t2.2.1) (t2.1, (ym t2.2.2 t2.2.1).2)) : Nat) : Int) then if (0 : Int) ≤ t2.2.1 then if t2.2.1 < ((List.length (List.set (List.set t2.2.2 (Int.toNat t2.2.1) (t2.1, (ym t2.2.2 t2.2.1).2)) (Int.toNat t2.2.1) ((ym (List.set t2.2.2 (Int.toNat t2.2.1) (t2.1, (ym t2.2.2 t2.2.1).2)) t2.2.1).1, ((Int.tmod (Go.IntKind.wrap .i64 (t2.1 + (1 : Int))) (3 : Int)) == (0 : Int)), (ym (List.set t2.2.2 (Int.toNat t2.2.1) (t2.1, (ym t2.2.2 t2.2.1).2)) t2.2.1).2.2)) : Nat) : Int) then let l1 : List yb := (List.set (List.set (List.set t2.2.2 (Int.toNat t2.2.1) (t2.1, (ym t2.2.2 t2.2.1).2)) (Int.toNat t2.2.1) ((ym (List.set t2.2.2 (Int.toNat t2.2.1) (t2.1, (ym t2.2.2 t2.2.1).2)) t2.2.1).1, ((Int.tmod (Go.IntKind.wrap .i64 (t2.1 + (1 : Int))) (3 : Int)) == (0 : Int)), (ym (List.set t2.2.2 (Int.toNat t2.2.1) (t2.1, (ym t2.2.2 t2.2.1).2)) t2.2.1).2.2)) (Int.toNat t2.2.1) ((ym (List.set (List.set t2.2.2 (Int.toNat t2.2.1) (t2.1, (ym t2.2.2 t2.2.1).2)) (Int.toNat t2.2.1) ((ym (List.set t2.2.2 (Int.toNat t2.2.1) (t2.1, (ym t2.2.2 t2.2.1).2)) t2.2.1).1, ((Int.tmod (Go.IntKind.wrap .i64 (t2.1 + (1 : Int))) (3 : Int)) == (0 : Int)), (ym (List.set t2.2.2 (Int.toNat t2.2.1) (t2.1, (ym t2.2.2 t2.2.1).2)) t2.2.1).2.2)) t2.2.1).1, (ym (List.set (List.set t2.2.2 (Int.toNat t2.2.1) (t2.1, (ym t2.2.2 t2.2.1).2)) (Int.toNat t2.2.1) ((ym (List.set t2.2.2 (Int.toNat t2.2.1) (t2.1, (ym t2.2.2 t2.2.1).2)) t2.2.1).1, ((Int.tmod (Go.IntKind.wrap .i64 (t2.1 + (1 : Int))) (3 : Int)) == (0 : Int)), (ym (List.set t2.2.2 (Int.toNat t2.2.1) (t2.1, (ym t2.2.2 t2.2.1).2)) t2.2.1).2.2)) t2.2.1).2.1, (Go.IntKind.wrap .i64 ((Go.IntKind.wrap .i64 (t2.1 + (1 : Int))) + (1 : Int))))); again ((Go.IntKind.wrap .i64 ((Go.IntKind.wrap .i64 ((Go.IntKind.wrap .i64 (t2.1 + (1 : Int))) + (1 : Int))) + (1 : Int))), (Go.IntKind.wrap .i64 (t2.2.1 + (1 : Int))), l1) else none else none else none else none else none else none else k0 (t2.1, t2.2.2)
def V1 k0 := z6 (@Yy R k0) zd
def ZN (x : ysq) : Option ymI :=
 V1 (fun x2 => some x2) (x.2, (0 : Int), x.1)
def ywg : List QF := []
def ya4 (t : ymG) : St := ⟨.own 10000000 :: vI t.1 :: dd 3 (vI t.2.1 :: dd 30 []), [(10000000, .deep true 1 95 yl t.2.2)]⟩
def yrM : Gk W3 := fun κ => Yy (fun t => κ (some 0) ⟨.own 10000000 :: vI t.1 :: dd 34 [], [(10000000, .deep true 1 95 yl t.2)]⟩)
def ywh : Lp := lpC 2 (unG ymH ya4) @yrM lpN
theorem ywi : LF ywg ywh 67 2 Tryz.f67 0 ya4 @yrM fun t => t := fun R κ again t => by kernel_rfl
theorem ywj : LK ywg ywh 67 Tryz.f67 0 := lkN (u := (unG ymH ya4)) (yf fun t => by kernel_rfl) ywi
theorem yBF : EV ywg ywh 67 Tryz.f67 yyZ ysr yty ZN := fun x => by kernel_rfl
def q67 : QF := ⟨67, ZN, okN (n := 1) Tryz.func67 ⟨ywj, trivial⟩ yBF⟩
abbrev kg : Type := ymJ
def J0 (k0 : ByteArray → Option R) (again : kg → Option R) (t4 : kg) : Option R :=
 bif (decide (t4.1 > (0 : Int))) then if ByteArray.size (y1B ([(Go.IntKind.wrap .u8 (Go.IntKind.wrap .i64 ((48 : Int) + (Int.tmod t4.1 (10 : Int)))))] : List z7)) + ByteArray.size t4.2 < 140737488355328 then again ((Go.IntKind.wrap .i64 (Int.tdiv t4.1 (10 : Int))), (show ByteArray from (show ByteArray from (y1B ([(Go.IntKind.wrap .u8 (Go.IntKind.wrap .i64 ((48 : Int) + (Int.tmod t4.1 (10 : Int)))))] : List z7))) ++ (show ByteArray from t4.2))) else none else k0 t4.2
def VJ k0 := z6 (@J0 R k0) zd
def zX (x : Int) : Option ByteArray :=
 bif (decide (x ≤ (0 : Int))) then some ({ data := #[109, 48] }) else VJ (fun x1 => if ByteArray.size ({ data := #[109] }) + ByteArray.size x1 < 140737488355328 then some (show ByteArray from (show ByteArray from { data := #[109] }) ++ (show ByteArray from x1)) else none) (x, { data := #[] })
def ykw : List QF := []
def y7g (t : ymJ) : St := ⟨vI t.1 :: dd 2 (vS t.2 :: dd 16 []), []⟩
def yia : Gk kg := fun κ => J0 (fun t => κ (some 0) ⟨dd 3 (vS t :: dd 16 []), []⟩)
def ykx : Lp := lpC 4 (unG ymK y7g) @yia lpN
theorem yrN : LF ykw ykx 146 4 Tryz.f146 0 y7g @yia fun t => t := fun R κ again t => by kernel_rfl
theorem yrO : LK ykw ykx 146 Tryz.f146 0 := lkN (u := (unG ymK y7g)) (yf fun t => by kernel_rfl) yrN
theorem ywk : EV ykw ykx 146 Tryz.f146 yp5 [(.int .i64)] [.str] zX := fun x => by kernel_rfl
def yzs : QF := ⟨146, zX, okN (n := 1) Tryz.func146 ⟨yrO, trivial⟩ ywk⟩
abbrev kh : Type := ymL
def Z5 (k0 : ymN → Option R) (again : kh → Option R) (t2 : kh) : Option R :=
 bif (decide (t2.2.1 < (List.length t2.2.2 : Int))) then Option.bind (zX t2.1) fun r1 => if (0 : Int) ≤ t2.2.1 then if t2.2.1 < (List.length t2.2.2 : Int) then if (0 : Int) ≤ t2.2.1 then if t2.2.1 < ((List.length (List.set t2.2.2 (Int.toNat t2.2.1) (r1, (yo t2.2.2 t2.2.1).2)) : Nat) : Int) then if (0 : Int) ≤ t2.2.1 then if t2.2.1 < ((List.length (List.set (List.set t2.2.2 (Int.toNat t2.2.1) (r1, (yo t2.2.2 t2.2.1).2)) (Int.toNat t2.2.1) ((yo (List.set t2.2.2 (Int.toNat t2.2.1) (r1, (yo t2.2.2 t2.2.1).2)) t2.2.1).1, (Go.IntKind.wrap .i64 (t2.1 + (1 : Int))), (yo (List.set t2.2.2 (Int.toNat t2.2.1) (r1, (yo t2.2.2 t2.2.1).2)) t2.2.1).2.2)) : Nat) : Int) then let l2 : List yD := (List.set (List.set (List.set t2.2.2 (Int.toNat t2.2.1) (r1, (yo t2.2.2 t2.2.1).2)) (Int.toNat t2.2.1) ((yo (List.set t2.2.2 (Int.toNat t2.2.1) (r1, (yo t2.2.2 t2.2.1).2)) t2.2.1).1, (Go.IntKind.wrap .i64 (t2.1 + (1 : Int))), (yo (List.set t2.2.2 (Int.toNat t2.2.1) (r1, (yo t2.2.2 t2.2.1).2)) t2.2.1).2.2)) (Int.toNat t2.2.1) ((yo (List.set (List.set t2.2.2 (Int.toNat t2.2.1) (r1, (yo t2.2.2 t2.2.1).2)) (Int.toNat t2.2.1) ((yo (List.set t2.2.2 (Int.toNat t2.2.1) (r1, (yo t2.2.2 t2.2.1).2)) t2.2.1).1, (Go.IntKind.wrap .i64 (t2.1 + (1 : Int))), (yo (List.set t2.2.2 (Int.toNat t2.2.1) (r1, (yo t2.2.2 t2.2.1).2)) t2.2.1).2.2)) t2.2.1).1, (yo (List.set (List.set t2.2.2 (Int.toNat t2.2.1) (r1, (yo t2.2.2 t2.2.1).2)) (Int.toNat t2.2.1) ((yo (List.set t2.2.2 (Int.toNat t2.2.1) (r1, (yo t2.2.2 t2.2.1).2)) t2.2.1).1, (Go.IntKind.wrap .i64 (t2.1 + (1 : Int))), (yo (List.set t2.2.2 (Int.toNat t2.2.1) (r1, (yo t2.2.2 t2.2.1).2)) t2.2.1).2.2)) t2.2.1).2.1, (Go.IntKind.wrap .i64 ((Go.IntKind.wrap .i64 (t2.1 + (1 : Int))) + (1 : Int))), (yo (List.set (List.set t2.2.2 (Int.toNat t2.2.1) (r1, (yo t2.2.2 t2.2.1).2)) (Int.toNat t2.2.1) ((yo (List.set t2.2.2 (Int.toNat t2.2.1) (r1, (yo t2.2.2 t2.2.1).2)) t2.2.1).1, (Go.IntKind.wrap .i64 (t2.1 + (1 : Int))), (yo (List.set t2.2.2 (Int.toNat t2.2.1) (r1, (yo t2.2.2 t2.2.1).2)) t2.2.1).2.2)) t2.2.1).2.2.2)); if (0 : Int) ≤ t2.2.1 then if t2.2.1 < (List.length l2 : Int) then again ((Go.IntKind.wrap .i64 ((Go.IntKind.wrap .i64 ((Go.IntKind.wrap .i64 ((Go.IntKind.wrap .i64 (t2.1 + (1 : Int))) + (1 : Int))) + (1 : Int))) + (1 : Int))), (Go.IntKind.wrap .i64 (t2.2.1 + (1 : Int))), (List.set l2 (Int.toNat t2.2.1) ((yo l2 t2.2.1).1, (yo l2 t2.2.1).2.1, (yo l2 t2.2.1).2.2.1, ((Int.tmod (Go.IntKind.wrap .i64 ((Go.IntKind.wrap .i64 ((Go.IntKind.wrap .i64 (t2.1 + (1 : Int))) + (1 : Int))) + (1 : Int))) (3 : Int)) == (0 : Int))))) else none else none else none else none else none else none else none else none else k0 (t2.1, t2.2.2)
def VK k0 := z6 (@Z5 R k0) zd
def jI (x : ymO) : Option ymN :=
 VK (fun x3 => some x3) (x.2, (0 : Int), x.1)
def ywl : List QF := [yzs]
def ya5 (t : ymL) : St := ⟨.own 10000000 :: vI t.1 :: dd 3 (vI t.2.1 :: dd 38 []), [(10000000, .deep true 1 91 yU t.2.2)]⟩
def yrP : Gk kh := fun κ => Z5 (fun t => κ (some 0) ⟨.own 10000000 :: vI t.1 :: dd 42 [], [(10000000, .deep true 1 91 yU t.2)]⟩)
def ywm : Lp := lpC 2 (unG ymM ya5) @yrP lpN
theorem ywn : LF ywl ywm 68 2 Tryz.f68 0 ya5 @yrP fun t => t := fun R κ again t => by kernel_rfl
theorem ywo : LK ywl ywm 68 Tryz.f68 0 := lkN (u := (unG ymM ya5)) (yf fun t => by kernel_rfl) ywn
theorem yBG : EV ywl ywm 68 Tryz.f68 yz0 ymP ytz jI := fun x => by kernel_rfl
def q68 : QF := ⟨68, jI, okN (n := 1) Tryz.func68 ⟨ywo, trivial⟩ yBG⟩
def jJ (x : ymQ) : Option ytA :=
 Option.bind (W2 (x.1, x.2.1, x.2.2.2.2.2.2)) fun r1 => Option.bind (jH (x.2.2.1, r1.1)) fun r2 => Option.bind (ZN (x.2.2.2.1, r2.1)) fun r3 => Option.bind (jI (x.2.2.2.2.1, r3.1)) fun r4 => some (r4.1, r1.2.1, r1.2.2, r2.2, r3.2, r4.2)
theorem yBH : EV [q65, q66, q67, q68] lpN 16 Tryz.f16 yz1 ymR ytB jJ := fun x => by kernel_rfl
def q16 : QF := ⟨16, jJ, okN (n := 0) Tryz.func16 trivial yBH⟩
abbrev W4 : Type := ymS
def W5 (k0 : ymU → Option R) (again : W4 → Option R) (t2 : W4) : Option R :=
 bif (decide (t2.2.1 < (List.length t2.2.2 : Int))) then if (0 : Int) ≤ t2.2.1 then if t2.2.1 < (List.length t2.2.2 : Int) then again ((Go.IntKind.wrap .i64 (t2.1 + (1 : Int))), (Go.IntKind.wrap .i64 (t2.2.1 + (1 : Int))), (List.set t2.2.2 (Int.toNat t2.2.1) (Go.IntKind.wrap .u8 t2.1))) else none else none else k0 (t2.1, t2.2.2)
def V2 k0 := z6 (@W5 R k0) zd
def zB (x : yl1) : Option ymU :=
 V2 (fun x1 => some x1) (x.2, (0 : Int), x.1)
def ywp : List QF := []
def ya6 (t : ymS) : St := ⟨.own 10000000 :: vI t.1 :: dd 3 (vI t.2.1 :: dd 14 []), [(10000000, .deep true 1 5 yF t.2.2)]⟩
def yrQ : Gk W4 := fun κ => W5 (fun t => κ (some 0) ⟨.own 10000000 :: vI t.1 :: dd 18 [], [(10000000, .deep true 1 5 yF t.2)]⟩)
def ywq : Lp := lpC 2 (unG ymT ya6) @yrQ lpN
theorem ywr : LF ywp ywq 17 2 Tryz.f17 0 ya6 @yrQ fun t => t := fun R κ again t => by kernel_rfl
theorem yws : LK ywp ywq 17 Tryz.f17 0 := lkN (u := (unG ymT ya6)) (yf fun t => by kernel_rfl) ywr
theorem yBI : EV ywp ywq 17 Tryz.f17 yz2 yl2 yiX zB := fun x => by kernel_rfl
def q17 : QF := ⟨17, zB, okN (n := 1) Tryz.func17 ⟨yws, trivial⟩ yBI⟩
abbrev JN : Type := ymV
def Zv (k0 : ymX → Option R) (again : JN → Option R) (t2 : JN) : Option R :=
 bif (decide (t2.2.1 < (List.length t2.2.2 : Int))) then if (0 : Int) ≤ t2.2.1 then if t2.2.1 < (List.length t2.2.2 : Int) then Option.bind (zB ((zL t2.2.2 t2.2.1), t2.1)) fun r1 => again (r1.1, (Go.IntKind.wrap .i64 (t2.2.1 + (1 : Int))), (List.set t2.2.2 (Int.toNat t2.2.1) r1.2)) else none else none else k0 (t2.1, t2.2.2)
def vA k0 := z6 (@Zv R k0) zd
def Z6 (x : ymY) : Option ymX :=
 vA (fun x2 => some x2) (x.2, (0 : Int), x.1)
def ywt : List QF := [q17]
def ya7 (t : ymV) : St := ⟨.own 10000000 :: vI t.1 :: dd 3 (vI t.2.1 :: dd 13 []), [(10000000, .deep true 1 32 yg t.2.2)]⟩
def yrR : Gk JN := fun κ => Zv (fun t => κ (some 0) ⟨.own 10000000 :: vI t.1 :: dd 17 [], [(10000000, .deep true 1 32 yg t.2)]⟩)
def ywu : Lp := lpC 2 (unG ymW ya7) @yrR lpN
theorem ywv : LF ywt ywu 81 2 Tryz.f81 0 ya7 @yrR fun t => t := fun R κ again t => by kernel_rfl
theorem yww : LK ywt ywu 81 Tryz.f81 0 := lkN (u := (unG ymW ya7)) (yf fun t => by kernel_rfl) ywv
theorem yBJ : EV ywt ywu 81 Tryz.f81 yz3 ymZ ytC Z6 := fun x => by kernel_rfl
def q81 : QF := ⟨81, Z6, okN (n := 1) Tryz.func81 ⟨yww, trivial⟩ yBJ⟩
abbrev K9 : Type := yn0
def JE (k0 : yn2 → Option R) (again : K9 → Option R) (t2 : K9) : Option R :=
 bif (decide (t2.2.1 < (List.length t2.2.2 : Int))) then if (0 : Int) ≤ t2.2.1 then if t2.2.1 < (List.length t2.2.2 : Int) then if (0 : Int) ≤ t2.2.1 then if t2.2.1 < ((List.length (List.set t2.2.2 (Int.toNat t2.2.1) (t2.1, (yW t2.2.2 t2.2.1).2)) : Nat) : Int) then Option.bind (zB ((yW (List.set t2.2.2 (Int.toNat t2.2.1) (t2.1, (yW t2.2.2 t2.2.1).2)) t2.2.1).2, (Go.IntKind.wrap .i64 (t2.1 + (1 : Int))))) fun r1 => again (r1.1, (Go.IntKind.wrap .i64 (t2.2.1 + (1 : Int))), (List.set (List.set t2.2.2 (Int.toNat t2.2.1) (t2.1, (yW t2.2.2 t2.2.1).2)) (Int.toNat t2.2.1) ((yW (List.set t2.2.2 (Int.toNat t2.2.1) (t2.1, (yW t2.2.2 t2.2.1).2)) t2.2.1).1, r1.2))) else none else none else none else none else k0 (t2.1, t2.2.2)
def qD k0 := z6 (@JE R k0) zd
def Jw (x : yn3) : Option yn2 :=
 qD (fun x2 => some x2) (x.2, (0 : Int), x.1)
def ywx : List QF := [q17]
def ya8 (t : yn0) : St := ⟨.own 10000000 :: vI t.1 :: dd 3 (vI t.2.1 :: dd 21 []), [(10000000, .deep true 1 186 zc t.2.2)]⟩
def yrS : Gk K9 := fun κ => JE (fun t => κ (some 0) ⟨.own 10000000 :: vI t.1 :: dd 25 [], [(10000000, .deep true 1 186 zc t.2)]⟩)
def ywy : Lp := lpC 2 (unG yn1 ya8) @yrS lpN
theorem ywz : LF ywx ywy 82 2 Tryz.f82 0 ya8 @yrS fun t => t := fun R κ again t => by kernel_rfl
theorem ywA : LK ywx ywy 82 Tryz.f82 0 := lkN (u := (unG yn1 ya8)) (yf fun t => by kernel_rfl) ywz
theorem yBK : EV ywx ywy 82 Tryz.f82 yz4 yn4 ytD Jw := fun x => by kernel_rfl
def q82 : QF := ⟨82, Jw, okN (n := 1) Tryz.func82 ⟨ywA, trivial⟩ yBK⟩
def Jx (x : yn5) : Option ytE :=
 Option.bind (Z6 (x.1, x.2.2.2.2)) fun r1 => Option.bind (Jw (x.2.1, r1.1)) fun r2 => some (r2.1, r1.2, r2.2)
theorem yBL : EV [q81, q82] lpN 25 Tryz.f25 yz5 yn6 ytF Jx := fun x => by kernel_rfl
def q25 : QF := ⟨25, Jx, okN (n := 0) Tryz.func25 trivial yBL⟩
def ZO (x : yiU) : Option ytG :=
 Option.bind (Jx (x.1, x.2.1, x.2.2.1, x.2.2.2.1, x.2.2.2.2.2.2.2.2.2.2.2.2.2)) fun r1 => Option.bind (jJ (x.2.2.2.2.1, x.2.2.2.2.2.1, x.2.2.2.2.2.2.1, x.2.2.2.2.2.2.2.1, x.2.2.2.2.2.2.2.2.1, x.2.2.2.2.2.2.2.2.2.1, r1.1)) fun r2 => some (r2.1, r1.2.1, r1.2.2, r2.2)
theorem yBM : EV [q16, q25] lpN 33 Tryz.f33 yz6 yiV ytH ZO := fun x => by kernel_rfl
def q33 : QF := ⟨33, ZO, okN (n := 0) Tryz.func33 trivial yBM⟩
abbrev ki : Type := yn7
def Z7 (k0 : y9e → Option R) (k1 : Int → Option R) (again : ki → Option R) (t2 : ki) : Option R :=
 bif (decide (t2.2.2 < (List.length t2.1 : Int))) then if (0 : Int) ≤ t2.2.2 then if t2.2.2 < (List.length t2.1 : Int) then bif ((zI t2.1 t2.2.2) != t2.2.1) then k0 (t2.2.1, (-1 : Int)) else again (t2.1, (Go.IntKind.wrap .i64 (t2.2.1 + (1 : Int))), (Go.IntKind.wrap .i64 (t2.2.2 + (1 : Int)))) else none else none else k1 t2.2.1
def VL k0 k1 := z6 (@Z7 R k0 k1) zd
def jK (x : ymr) : Option Int :=
 VL (fun x1 => some x1.2) (fun x2 => some x2) (x.1, x.2, (0 : Int))
def yky : List QF := []
def y7h (t : yn7) : St := ⟨zn t.1 :: vI t.2.1 :: dd 3 (vI t.2.2 :: dd 15 []), []⟩
def yib : Gk ki := fun κ => Z7 (fun t => κ none ⟨.dead :: vI t.1 :: dd 2 (vI t.2 :: dd 16 []), []⟩) (fun t => κ (some 0) ⟨.dead :: vI t :: dd 19 [], []⟩)
def ykz : Lp := lpC 2 (unG yn8 y7h) @yib lpN
theorem yrT : LF yky ykz 168 2 Tryz.f168 0 y7h @yib fun t => t := fun R κ again t => by kernel_rfl
theorem yrU : LK yky ykz 168 Tryz.f168 0 := lkN (u := (unG yn8 y7h)) (yf fun t => by kernel_rfl) yrT
theorem ywB : EV yky ykz 168 Tryz.f168 yp6 yms [(.int .i64)] jK := fun x => by kernel_rfl
def yBN : QF := ⟨168, jK, okN (n := 1) Tryz.func168 ⟨yrU, trivial⟩ ywB⟩
abbrev kj : Type := yn9
def Z8 (k0 : y9e → Option R) (k1 : Int → Option R) (again : kj → Option R) (t2 : kj) : Option R :=
 bif (decide (t2.2.2 < (List.length t2.1 : Int))) then if (0 : Int) ≤ t2.2.2 then if t2.2.2 < (List.length t2.1 : Int) then bif ((y0 t2.1 t2.2.2).1 != t2.2.1) then k0 (t2.2.1, (-1 : Int)) else if (0 : Int) ≤ t2.2.2 then if t2.2.2 < (List.length t2.1 : Int) then bif ((y0 t2.1 t2.2.2).2.1 != (Go.IntKind.wrap .i64 (t2.2.1 + (1 : Int)))) then k0 ((Go.IntKind.wrap .i64 (t2.2.1 + (1 : Int))), (-1 : Int)) else if (0 : Int) ≤ t2.2.2 then if t2.2.2 < (List.length t2.1 : Int) then bif ((y0 t2.1 t2.2.2).2.2.1 != (Go.IntKind.wrap .i64 ((Go.IntKind.wrap .i64 (t2.2.1 + (1 : Int))) + (1 : Int)))) then k0 ((Go.IntKind.wrap .i64 ((Go.IntKind.wrap .i64 (t2.2.1 + (1 : Int))) + (1 : Int))), (-1 : Int)) else if (0 : Int) ≤ t2.2.2 then if t2.2.2 < (List.length t2.1 : Int) then bif ((y0 t2.1 t2.2.2).2.2.2.1 != (Go.IntKind.wrap .i64 ((Go.IntKind.wrap .i64 ((Go.IntKind.wrap .i64 (t2.2.1 + (1 : Int))) + (1 : Int))) + (1 : Int)))) then k0 ((Go.IntKind.wrap .i64 ((Go.IntKind.wrap .i64 ((Go.IntKind.wrap .i64 (t2.2.1 + (1 : Int))) + (1 : Int))) + (1 : Int))), (-1 : Int)) else if (0 : Int) ≤ t2.2.2 then if t2.2.2 < (List.length t2.1 : Int) then bif ((y0 t2.1 t2.2.2).2.2.2.2 != (Go.IntKind.wrap .i64 ((Go.IntKind.wrap .i64 ((Go.IntKind.wrap .i64 ((Go.IntKind.wrap .i64 (t2.2.1 + (1 : Int))) + (1 : Int))) + (1 : Int))) + (1 : Int)))) then k0 ((Go.IntKind.wrap .i64 ((Go.IntKind.wrap .i64 ((Go.IntKind.wrap .i64 ((Go.IntKind.wrap .i64 (t2.2.1 + (1 : Int))) + (1 : Int))) + (1 : Int))) + (1 : Int))), (-1 : Int)) else again (t2.1, (Go.IntKind.wrap .i64 ((Go.IntKind.wrap .i64 ((Go.IntKind.wrap .i64 ((Go.IntKind.wrap .i64 ((Go.IntKind.wrap .i64 (t2.2.1 + (1 : Int))) + (1 : Int))) + (1 : Int))) + (1 : Int))) + (1 : Int))), (Go.IntKind.wrap .i64 (t2.2.2 + (1 : Int)))) else none else none else none else none else none else none else none else none else none else none else k1 t2.2.1
def VM k0 k1 := z6 (@Z8 R k0 k1) zd
def Z9 (x : ykX) : Option Int :=
 VM (fun x1 => some x1.2) (fun x2 => some x2) (x.1, x.2, (0 : Int))
def ykA : List QF := []
def y7i (t : yn9) : St := ⟨Vx t.1 :: vI t.2.1 :: dd 3 (vI t.2.2 :: dd 52 []), []⟩
def yic : Gk kj := fun κ => Z8 (fun t => κ none ⟨.dead :: vI t.1 :: dd 2 (vI t.2 :: dd 53 []), []⟩) (fun t => κ (some 0) ⟨.dead :: vI t :: dd 56 [], []⟩)
def ykB : Lp := lpC 2 (unG yna y7i) @yic lpN
theorem yrV : LF ykA ykB 255 2 Tryz.f255 0 y7i @yic fun t => t := fun R κ again t => by kernel_rfl
theorem yrW : LK ykA ykB 255 Tryz.f255 0 := lkN (u := (unG yna y7i)) (yf fun t => by kernel_rfl) yrV
theorem ywC : EV ykA ykB 255 Tryz.f255 yp7 ykY [(.int .i64)] Z9 := fun x => by kernel_rfl
def yBO : QF := ⟨255, Z9, okN (n := 1) Tryz.func255 ⟨yrW, trivial⟩ ywC⟩
abbrev W6 : Type := y9Q
def j9 (k0 : y9e → Option R) (k1 : Int → Option R) (again : W6 → Option R) (t2 : W6) : Option R :=
 bif (decide (t2.2.2 < (List.length t2.1 : Int))) then if (0 : Int) ≤ t2.2.2 then if t2.2.2 < (List.length t2.1 : Int) then Option.bind (Z9 ((yh t2.1 t2.2.2), t2.2.1)) fun r1 => bif (decide (r1 < (0 : Int))) then k0 (r1, (-1 : Int)) else again (t2.1, r1, (Go.IntKind.wrap .i64 (t2.2.2 + (1 : Int)))) else none else none else k1 t2.2.1
def V3 k0 k1 := z6 (@j9 R k0 k1) zd
def Yp (x : ymw) : Option Int :=
 V3 (fun x2 => some x2.2) (fun x3 => some x3) (x.1, x.2, (0 : Int))
def ykC : List QF := [yBO]
def y7j (t : y9Q) : St := ⟨zH t.1 :: vI t.2.1 :: dd 3 (vI t.2.2 :: dd 15 []), []⟩
def yid : Gk W6 := fun κ => j9 (fun t => κ none ⟨.dead :: vI t.1 :: dd 2 (vI t.2 :: dd 16 []), []⟩) (fun t => κ (some 0) ⟨.dead :: vI t :: dd 19 [], []⟩)
def ykD : Lp := lpC 2 (unG yfF y7j) @yid lpN
theorem yrX : LF ykC ykD 222 2 Tryz.f222 0 y7j @yid fun t => t := fun R κ again t => by kernel_rfl
theorem yrY : LK ykC ykD 222 Tryz.f222 0 := lkN (u := (unG yfF y7j)) (yf fun t => by kernel_rfl) yrX
theorem ywD : EV ykC ykD 222 Tryz.f222 yp8 ymx [(.int .i64)] Yp := fun x => by kernel_rfl
def yBP : QF := ⟨222, Yp, okN (n := 1) Tryz.func222 ⟨yrY, trivial⟩ ywD⟩
abbrev W7 : Type := ynb
def ja (k0 : y9e → Option R) (k1 : Int → Option R) (again : W7 → Option R) (t2 : W7) : Option R :=
 bif (decide (t2.2.2 < (List.length t2.1 : Int))) then if (0 : Int) ≤ t2.2.2 then if t2.2.2 < (List.length t2.1 : Int) then Option.bind (Yp ((yn t2.1 t2.2.2), t2.2.1)) fun r1 => bif (decide (r1 < (0 : Int))) then k0 (r1, (-1 : Int)) else again (t2.1, r1, (Go.IntKind.wrap .i64 (t2.2.2 + (1 : Int)))) else none else none else k1 t2.2.1
def V4 k0 k1 := z6 (@ja R k0 k1) zd
def ZP (x : ymB) : Option Int :=
 V4 (fun x2 => some x2.2) (fun x3 => some x3) (x.1, x.2, (0 : Int))
def ykE : List QF := [yBP]
def y7k (t : ynb) : St := ⟨yH t.1 :: vI t.2.1 :: dd 3 (vI t.2.2 :: dd 16 []), []⟩
def yie : Gk W7 := fun κ => ja (fun t => κ none ⟨.dead :: vI t.1 :: dd 2 (vI t.2 :: dd 17 []), []⟩) (fun t => κ (some 0) ⟨.dead :: vI t :: dd 20 [], []⟩)
def ykF : Lp := lpC 2 (unG ync y7k) @yie lpN
theorem yrZ : LF ykE ykF 169 2 Tryz.f169 0 y7k @yie fun t => t := fun R κ again t => by kernel_rfl
theorem ys0 : LK ykE ykF 169 Tryz.f169 0 := lkN (u := (unG ync y7k)) (yf fun t => by kernel_rfl) yrZ
theorem ywE : EV ykE ykF 169 Tryz.f169 yp9 ymC [(.int .i64)] ZP := fun x => by kernel_rfl
def yBQ : QF := ⟨169, ZP, okN (n := 1) Tryz.func169 ⟨ys0, trivial⟩ ywE⟩
def W8 (x : ysm) : Option Int :=
 Option.bind (jK (x.1, x.2.2)) fun r1 => bif (decide (r1 < (0 : Int))) then some (-1 : Int) else Option.bind (ZP (x.2.1, r1)) fun r2 => bif (decide (r2 < (0 : Int))) then some (-1 : Int) else some r2
theorem yBR : EV [yBN, yBQ] lpN 91 Tryz.f91 yz7 ysn [(.int .i64)] W8 := fun x => by kernel_rfl
def q91 : QF := ⟨91, W8, okN (n := 0) Tryz.func91 trivial yBR⟩
abbrev kl : Type := yso
def Za (k0 : y9e → Option R) (k1 : Int → Option R) (again : kl → Option R) (t2 : kl) : Option R :=
 bif (decide (t2.2.2 < (List.length t2.1 : Int))) then if (0 : Int) ≤ t2.2.2 then if t2.2.2 < (List.length t2.1 : Int) then bif ((z8 t2.1 t2.2.2).1 != t2.2.1) then k0 (t2.2.1, (-1 : Int)) else if (0 : Int) ≤ t2.2.2 then if t2.2.2 < (List.length t2.1 : Int) then bif ((z8 t2.1 t2.2.2).2 != (Go.IntKind.wrap .i64 (t2.2.1 + (1 : Int)))) then k0 ((Go.IntKind.wrap .i64 (t2.2.1 + (1 : Int))), (-1 : Int)) else again (t2.1, (Go.IntKind.wrap .i64 ((Go.IntKind.wrap .i64 (t2.2.1 + (1 : Int))) + (1 : Int))), (Go.IntKind.wrap .i64 (t2.2.2 + (1 : Int)))) else none else none else none else none else k1 t2.2.1
def VN k0 k1 := z6 (@Za R k0 k1) zd
def jL (x : yfC) : Option Int :=
 VN (fun x1 => some x1.2) (fun x2 => some x2) (x.1, x.2, (0 : Int))
def ywF : List QF := []
def ya9 (t : yso) : St := ⟨zv t.1 :: vI t.2.1 :: dd 3 (vI t.2.2 :: dd 25 []), []⟩
def ys1 : Gk kl := fun κ => Za (fun t => κ none ⟨.dead :: vI t.1 :: dd 2 (vI t.2 :: dd 26 []), []⟩) (fun t => κ (some 0) ⟨.dead :: vI t :: dd 29 [], []⟩)
def ywG : Lp := lpC 2 (unG ysp ya9) @ys1 lpN
theorem ywH : LF ywF ywG 92 2 Tryz.f92 0 ya9 @ys1 fun t => t := fun R κ again t => by kernel_rfl
theorem ywI : LK ywF ywG 92 Tryz.f92 0 := lkN (u := (unG ysp ya9)) (yf fun t => by kernel_rfl) ywH
theorem yBS : EV ywF ywG 92 Tryz.f92 yz8 yfD [(.int .i64)] jL := fun x => by kernel_rfl
def q92 : QF := ⟨92, jL, okN (n := 1) Tryz.func92 ⟨ywI, trivial⟩ yBS⟩
abbrev W9 : Type := ykZ
def YA (k0 : y9e → Option R) (k1 : Int → Option R) (again : W9 → Option R) (t2 : W9) : Option R :=
 bif (decide (t2.2.2 < (List.length t2.1 : Int))) then if (0 : Int) ≤ t2.2.2 then if t2.2.2 < (List.length t2.1 : Int) then bif ((ym t2.1 t2.2.2).1 != t2.2.1) then k0 (t2.2.1, (-1 : Int)) else if (0 : Int) ≤ t2.2.2 then if t2.2.2 < (List.length t2.1 : Int) then bif (!((ym t2.1 t2.2.2).2.1 == ((Int.tmod (Go.IntKind.wrap .i64 (t2.2.1 + (1 : Int))) (3 : Int)) == (0 : Int)))) then k0 ((Go.IntKind.wrap .i64 (t2.2.1 + (1 : Int))), (-1 : Int)) else if (0 : Int) ≤ t2.2.2 then if t2.2.2 < (List.length t2.1 : Int) then bif ((ym t2.1 t2.2.2).2.2 != (Go.IntKind.wrap .i64 ((Go.IntKind.wrap .i64 (t2.2.1 + (1 : Int))) + (1 : Int)))) then k0 ((Go.IntKind.wrap .i64 ((Go.IntKind.wrap .i64 (t2.2.1 + (1 : Int))) + (1 : Int))), (-1 : Int)) else again (t2.1, (Go.IntKind.wrap .i64 ((Go.IntKind.wrap .i64 ((Go.IntKind.wrap .i64 (t2.2.1 + (1 : Int))) + (1 : Int))) + (1 : Int))), (Go.IntKind.wrap .i64 (t2.2.2 + (1 : Int)))) else none else none else none else none else none else none else k1 t2.2.1
def V5 k0 k1 := z6 (@YA R k0 k1) zd
def ZQ (x : ysq) : Option Int :=
 V5 (fun x1 => some x1.2) (fun x2 => some x2) (x.1, x.2, (0 : Int))
def ywJ : List QF := []
def yaa (t : ykZ) : St := ⟨yV t.1 :: vI t.2.1 :: dd 3 (vI t.2.2 :: dd 36 []), []⟩
def ys2 : Gk W9 := fun κ => YA (fun t => κ none ⟨.dead :: vI t.1 :: dd 2 (vI t.2 :: dd 37 []), []⟩) (fun t => κ (some 0) ⟨.dead :: vI t :: dd 40 [], []⟩)
def ywK : Lp := lpC 2 (unG yl0 yaa) @ys2 lpN
theorem ywL : LF ywJ ywK 93 2 Tryz.f93 0 yaa @ys2 fun t => t := fun R κ again t => by kernel_rfl
theorem ywM : LK ywJ ywK 93 Tryz.f93 0 := lkN (u := (unG yl0 yaa)) (yf fun t => by kernel_rfl) ywL
theorem yBT : EV ywJ ywK 93 Tryz.f93 yz9 ysr [(.int .i64)] ZQ := fun x => by kernel_rfl
def q93 : QF := ⟨93, ZQ, okN (n := 1) Tryz.func93 ⟨ywM, trivial⟩ yBT⟩
abbrev km : Type := ynd
def Zb (k0 : y9e → Option R) (k1 : Int → Option R) (again : km → Option R) (t2 : km) : Option R :=
 bif (decide (t2.2.2 < (List.length t2.1 : Int))) then if (0 : Int) ≤ t2.2.2 then if t2.2.2 < (List.length t2.1 : Int) then Option.bind (zX t2.2.1) fun r1 => bif (!((ByteArray.toList ((yo t2.1 t2.2.2).1)) == (ByteArray.toList r1))) then k0 (t2.2.1, (-1 : Int)) else if (0 : Int) ≤ t2.2.2 then if t2.2.2 < (List.length t2.1 : Int) then bif ((yo t2.1 t2.2.2).2.1 != (Go.IntKind.wrap .i64 (t2.2.1 + (1 : Int)))) then k0 ((Go.IntKind.wrap .i64 (t2.2.1 + (1 : Int))), (-1 : Int)) else if (0 : Int) ≤ t2.2.2 then if t2.2.2 < (List.length t2.1 : Int) then bif ((yo t2.1 t2.2.2).2.2.1 != (Go.IntKind.wrap .i64 ((Go.IntKind.wrap .i64 (t2.2.1 + (1 : Int))) + (1 : Int)))) then k0 ((Go.IntKind.wrap .i64 ((Go.IntKind.wrap .i64 (t2.2.1 + (1 : Int))) + (1 : Int))), (-1 : Int)) else if (0 : Int) ≤ t2.2.2 then if t2.2.2 < (List.length t2.1 : Int) then bif (!((yo t2.1 t2.2.2).2.2.2 == ((Int.tmod (Go.IntKind.wrap .i64 ((Go.IntKind.wrap .i64 ((Go.IntKind.wrap .i64 (t2.2.1 + (1 : Int))) + (1 : Int))) + (1 : Int))) (3 : Int)) == (0 : Int)))) then k0 ((Go.IntKind.wrap .i64 ((Go.IntKind.wrap .i64 ((Go.IntKind.wrap .i64 (t2.2.1 + (1 : Int))) + (1 : Int))) + (1 : Int))), (-1 : Int)) else again (t2.1, (Go.IntKind.wrap .i64 ((Go.IntKind.wrap .i64 ((Go.IntKind.wrap .i64 ((Go.IntKind.wrap .i64 (t2.2.1 + (1 : Int))) + (1 : Int))) + (1 : Int))) + (1 : Int))), (Go.IntKind.wrap .i64 (t2.2.2 + (1 : Int)))) else none else none else none else none else none else none else none else none else k1 t2.2.1
def VO k0 k1 := z6 (@Zb R k0 k1) zd
def jM (x : ymO) : Option Int :=
 VO (fun x2 => some x2.2) (fun x3 => some x3) (x.1, x.2, (0 : Int))
def ywN : List QF := [yzs]
def yab (t : ynd) : St := ⟨Y4 t.1 :: vI t.2.1 :: dd 3 (vI t.2.2 :: dd 46 []), []⟩
def ys3 : Gk km := fun κ => Zb (fun t => κ none ⟨.dead :: vI t.1 :: dd 2 (vI t.2 :: dd 47 []), []⟩) (fun t => κ (some 0) ⟨.dead :: vI t :: dd 50 [], []⟩)
def ywO : Lp := lpC 2 (unG yne yab) @ys3 lpN
theorem ywP : LF ywN ywO 94 2 Tryz.f94 0 yab @ys3 fun t => t := fun R κ again t => by kernel_rfl
theorem ywQ : LK ywN ywO 94 Tryz.f94 0 := lkN (u := (unG yne yab)) (yf fun t => by kernel_rfl) ywP
theorem yBU : EV ywN ywO 94 Tryz.f94 yza ymP [(.int .i64)] jM := fun x => by kernel_rfl
def q94 : QF := ⟨94, jM, okN (n := 1) Tryz.func94 ⟨ywQ, trivial⟩ yBU⟩
def jN (x : ymQ) : Option Int :=
 Option.bind (W8 (x.1, x.2.1, x.2.2.2.2.2.2)) fun r1 => bif (decide (r1 < (0 : Int))) then some (-1 : Int) else Option.bind (jL (x.2.2.1, r1)) fun r2 => bif (decide (r2 < (0 : Int))) then some (-1 : Int) else Option.bind (ZQ (x.2.2.2.1, r2)) fun r3 => bif (decide (r3 < (0 : Int))) then some (-1 : Int) else Option.bind (jM (x.2.2.2.2.1, r3)) fun r4 => bif (decide (r4 < (0 : Int))) then some (-1 : Int) else some r4
theorem yBV : EV [q91, q92, q93, q94] lpN 29 Tryz.f29 yzb ymR [(.int .i64)] jN := fun x => by kernel_rfl
def q29 : QF := ⟨29, jN, okN (n := 0) Tryz.func29 trivial yBV⟩
abbrev Wa : Type := ylp
def Wb (k0 : y9e → Option R) (k1 : Int → Option R) (again : Wa → Option R) (t2 : Wa) : Option R :=
 bif (decide (t2.2.2 < (List.length t2.1 : Int))) then if (0 : Int) ≤ t2.2.2 then if t2.2.2 < (List.length t2.1 : Int) then bif ((y9O t2.1 t2.2.2) != (Go.IntKind.wrap .u8 t2.2.1)) then k0 (t2.2.1, (-1 : Int)) else again (t2.1, (Go.IntKind.wrap .i64 (t2.2.1 + (1 : Int))), (Go.IntKind.wrap .i64 (t2.2.2 + (1 : Int)))) else none else none else k1 t2.2.1
def V6 k0 k1 := z6 (@Wb R k0 k1) zd
def zC (x : yl1) : Option Int :=
 V6 (fun x1 => some x1.2) (fun x2 => some x2) (x.1, x.2, (0 : Int))
def ywR : List QF := []
def yac (t : ylp) : St := ⟨ydw t.1 :: vI t.2.1 :: dd 3 (vI t.2.2 :: dd 16 []), []⟩
def ys4 : Gk Wa := fun κ => Wb (fun t => κ none ⟨.dead :: vI t.1 :: dd 2 (vI t.2 :: dd 17 []), []⟩) (fun t => κ (some 0) ⟨.dead :: vI t :: dd 20 [], []⟩)
def ywS : Lp := lpC 2 (unG ysy yac) @ys4 lpN
theorem ywT : LF ywR ywS 18 2 Tryz.f18 0 yac @ys4 fun t => t := fun R κ again t => by kernel_rfl
theorem ywU : LK ywR ywS 18 Tryz.f18 0 := lkN (u := (unG ysy yac)) (yf fun t => by kernel_rfl) ywT
theorem yBW : EV ywR ywS 18 Tryz.f18 yzc yl2 [(.int .i64)] zC := fun x => by kernel_rfl
def q18 : QF := ⟨18, zC, okN (n := 1) Tryz.func18 ⟨ywU, trivial⟩ yBW⟩
abbrev JO : Type := ynf
def Zw (k0 : y9e → Option R) (k1 : Int → Option R) (again : JO → Option R) (t2 : JO) : Option R :=
 bif (decide (t2.2.2 < (List.length t2.1 : Int))) then if (0 : Int) ≤ t2.2.2 then if t2.2.2 < (List.length t2.1 : Int) then Option.bind (zC ((zL t2.1 t2.2.2), t2.2.1)) fun r1 => bif (decide (r1 < (0 : Int))) then k0 (r1, (-1 : Int)) else again (t2.1, r1, (Go.IntKind.wrap .i64 (t2.2.2 + (1 : Int)))) else none else none else k1 t2.2.1
def vC k0 k1 := z6 (@Zw R k0 k1) zd
def Zc (x : ymY) : Option Int :=
 vC (fun x2 => some x2.2) (fun x3 => some x3) (x.1, x.2, (0 : Int))
def ykG : List QF := [q18]
def y7l (t : ynf) : St := ⟨Yt t.1 :: vI t.2.1 :: dd 3 (vI t.2.2 :: dd 15 []), []⟩
def yif : Gk JO := fun κ => Zw (fun t => κ none ⟨.dead :: vI t.1 :: dd 2 (vI t.2 :: dd 16 []), []⟩) (fun t => κ (some 0) ⟨.dead :: vI t :: dd 19 [], []⟩)
def ykH : Lp := lpC 2 (unG yng y7l) @yif lpN
theorem ys5 : LF ykG ykH 174 2 Tryz.f174 0 y7l @yif fun t => t := fun R κ again t => by kernel_rfl
theorem ys6 : LK ykG ykH 174 Tryz.f174 0 := lkN (u := (unG yng y7l)) (yf fun t => by kernel_rfl) ys5
theorem ywV : EV ykG ykH 174 Tryz.f174 ypa ymZ [(.int .i64)] Zc := fun x => by kernel_rfl
def yBX : QF := ⟨174, Zc, okN (n := 1) Tryz.func174 ⟨ys6, trivial⟩ ywV⟩
abbrev Ka : Type := ynh
def JF (k0 : y9e → Option R) (k1 : Int → Option R) (again : Ka → Option R) (t2 : Ka) : Option R :=
 bif (decide (t2.2.2 < (List.length t2.1 : Int))) then if (0 : Int) ≤ t2.2.2 then if t2.2.2 < (List.length t2.1 : Int) then bif ((yW t2.1 t2.2.2).1 != t2.2.1) then k0 (t2.2.1, (-1 : Int)) else if (0 : Int) ≤ t2.2.2 then if t2.2.2 < (List.length t2.1 : Int) then Option.bind (zC ((yW t2.1 t2.2.2).2, (Go.IntKind.wrap .i64 (t2.2.1 + (1 : Int))))) fun r1 => bif (decide (r1 < (0 : Int))) then k0 (r1, (-1 : Int)) else again (t2.1, r1, (Go.IntKind.wrap .i64 (t2.2.2 + (1 : Int)))) else none else none else none else none else k1 t2.2.1
def qE k0 k1 := z6 (@JF R k0 k1) zd
def Jy (x : yn3) : Option Int :=
 qE (fun x2 => some x2.2) (fun x3 => some x3) (x.1, x.2, (0 : Int))
def ykI : List QF := [q18]
def y7m (t : ynh) : St := ⟨QS t.1 :: vI t.2.1 :: dd 3 (vI t.2.2 :: dd 25 []), []⟩
def yig : Gk Ka := fun κ => JF (fun t => κ none ⟨.dead :: vI t.1 :: dd 2 (vI t.2 :: dd 26 []), []⟩) (fun t => κ (some 0) ⟨.dead :: vI t :: dd 29 [], []⟩)
def ykJ : Lp := lpC 2 (unG yni y7m) @yig lpN
theorem ys7 : LF ykI ykJ 175 2 Tryz.f175 0 y7m @yig fun t => t := fun R κ again t => by kernel_rfl
theorem ys8 : LK ykI ykJ 175 Tryz.f175 0 := lkN (u := (unG yni y7m)) (yf fun t => by kernel_rfl) ys7
theorem ywW : EV ykI ykJ 175 Tryz.f175 ypb yn4 [(.int .i64)] Jy := fun x => by kernel_rfl
def yBY : QF := ⟨175, Jy, okN (n := 1) Tryz.func175 ⟨ys8, trivial⟩ ywW⟩
def Jz (x : yn5) : Option Int :=
 Option.bind (Zc (x.1, x.2.2.2.2)) fun r1 => bif (decide (r1 < (0 : Int))) then some (-1 : Int) else Option.bind (Jy (x.2.1, r1)) fun r2 => bif (decide (r2 < (0 : Int))) then some (-1 : Int) else some r2
theorem yBZ : EV [yBX, yBY] lpN 99 Tryz.f99 yzd yn6 [(.int .i64)] Jz := fun x => by kernel_rfl
def q99 : QF := ⟨99, Jz, okN (n := 0) Tryz.func99 trivial yBZ⟩
def Yq (x : yiU) : Option Int :=
 Option.bind (Jz (x.1, x.2.1, x.2.2.1, x.2.2.2.1, x.2.2.2.2.2.2.2.2.2.2.2.2.2)) fun r1 => bif (decide (r1 < (0 : Int))) then some (-1 : Int) else Option.bind (jN (x.2.2.2.2.1, x.2.2.2.2.2.1, x.2.2.2.2.2.2.1, x.2.2.2.2.2.2.2.1, x.2.2.2.2.2.2.2.2.1, x.2.2.2.2.2.2.2.2.2.1, r1)) fun r2 => bif (decide (r2 < (0 : Int))) then some (-1 : Int) else some r2
theorem yC0 : EV [q29, q99] lpN 34 Tryz.f34 yze yiV [(.int .i64)] Yq := fun x => by kernel_rfl
def q34 : QF := ⟨34, Yq, okN (n := 0) Tryz.func34 trivial yC0⟩
def zk (x : Unit) : Option Bool :=
 Option.bind (wx ()) fun r1 => Option.bind (jX ()) fun r2 => Option.bind (ZW (r2.1, r2.2.1, r2.2.2.1, r2.2.2.2.1, r2.2.2.2.2.1, r2.2.2.2.2.2.1, r2.2.2.2.2.2.2.1, r2.2.2.2.2.2.2.2.1, r2.2.2.2.2.2.2.2.2.1, r2.2.2.2.2.2.2.2.2.2.1, r2.2.2.2.2.2.2.2.2.2.2.1, r2.2.2.2.2.2.2.2.2.2.2.2.1, r2.2.2.2.2.2.2.2.2.2.2.2.2, r1)) fun r3 => bif (!r3) then some false else Option.bind (ZO (r2.1, r2.2.1, r2.2.2.1, r2.2.2.2.1, r2.2.2.2.2.1, r2.2.2.2.2.2.1, r2.2.2.2.2.2.2.1, r2.2.2.2.2.2.2.2.1, r2.2.2.2.2.2.2.2.2.1, r2.2.2.2.2.2.2.2.2.2.1, r2.2.2.2.2.2.2.2.2.2.2.1, r2.2.2.2.2.2.2.2.2.2.2.2.1, r2.2.2.2.2.2.2.2.2.2.2.2.2, (1 : Int))) fun r4 => Option.bind (Yq (r4.2.1, r4.2.2.1, r2.2.2.1, r2.2.2.2.1, r4.2.2.2.1, r4.2.2.2.2.1, r4.2.2.2.2.2.1, r4.2.2.2.2.2.2.1, r4.2.2.2.2.2.2.2, r2.2.2.2.2.2.2.2.2.2.1, r2.2.2.2.2.2.2.2.2.2.2.1, r2.2.2.2.2.2.2.2.2.2.2.2.1, r2.2.2.2.2.2.2.2.2.2.2.2.2, (1 : Int))) fun r5 => bif (decide (r5 < (0 : Int))) then some false else bif (r5 != r4.1) then some false else Option.bind (jX ()) fun r6 => Option.bind (ZW (r6.1, r6.2.1, r6.2.2.1, r6.2.2.2.1, r6.2.2.2.2.1, r6.2.2.2.2.2.1, r6.2.2.2.2.2.2.1, r6.2.2.2.2.2.2.2.1, r6.2.2.2.2.2.2.2.2.1, r6.2.2.2.2.2.2.2.2.2.1, r6.2.2.2.2.2.2.2.2.2.2.1, r6.2.2.2.2.2.2.2.2.2.2.2.1, r6.2.2.2.2.2.2.2.2.2.2.2.2, r1)) fun r7 => bif (!r7) then some false else Option.bind (Yq (r4.2.1, r4.2.2.1, r2.2.2.1, r2.2.2.2.1, r4.2.2.2.1, r4.2.2.2.2.1, r4.2.2.2.2.2.1, r4.2.2.2.2.2.2.1, r4.2.2.2.2.2.2.2, r2.2.2.2.2.2.2.2.2.2.1, r2.2.2.2.2.2.2.2.2.2.2.1, r2.2.2.2.2.2.2.2.2.2.2.2.1, r2.2.2.2.2.2.2.2.2.2.2.2.2, (1 : Int))) fun r8 => bif (decide (r8 < (0 : Int))) then some false else bif (r8 != r4.1) then some false else some true
theorem ev6 : EV [q30, q31, q32, q33, q34] lpN 6 Tryz.f6 sg6 [] [.bool] zk := fun x => by kernel_rfl
def q6 : QF := ⟨6, zk, okN (n := 0) Tryz.func6 trivial ev6⟩
end
end Go.Proofs.YtmapoakbdgpamaaGreat.XN
