/- What functions compute, and that they do; part 0 of T; by a program (dec.py). No condition. -/
import Derived.Test.YthgdjjdigalckaaGreatXT
set_option linter.all false
namespace Go.Proofs.YthgdjjdigalckaaGreat.XT
open Go.Proofs.YthgdjjdigalckaaGreat.R
set_option maxRecDepth 100000
noncomputable section
variable {R : Type}
def QG (x : List vu) : Option Bool :=
 some (decide ((List.length x : Int) > (1048576 : Int)))
theorem ev9 : EV [] lpN 9 Tryz.f9 sg9 [(.sl 5 Ym)] [.bool] QG := fun x => by kernel_rfl
def q9 : QF := ⟨9, QG, okN (n := 0) Tryz.func9 trivial ev9⟩
abbrev vR : Type := Qz0
def kx (k0 : Qz1 → Option R) (again : vR → Option R) (t3 : vR) : Option R :=
 Option.bind (bif (decide (t3.2.2 < (List.length t3.1 : Int))) then some (decide (t3.2.2 < (4000 : Int))) else some false) fun u1 => bif u1 then if (0 : Int) ≤ t3.2.2 then if t3.2.2 < (List.length t3.1 : Int) then again (t3.1, (Go.bits .and .i64 (Go.IntKind.wrap .i64 ((Go.IntKind.wrap .i64 ((Go.IntKind.wrap .i64 (t3.2.1 * (137 : Int))) + (Go.IntKind.wrap .i64 (yl9 t3.1 t3.2.2)))) + (11 : Int))) (1073741823 : Int)), (Go.IntKind.wrap .i64 (t3.2.2 + (1 : Int)))) else none else none else k0 (t3.1, t3.2.1)
def y44 k0 := zE (@kx R k0) zW
def kM (x : List vu) : Option Qz0 :=
 y44 (fun x2 => some (x2.1, (0 : Int), x2.2)) (x, (Go.IntKind.wrap .i64 ((941941 : Int) + (List.length x : Int))), (0 : Int))
def yia : List QF := []
def y5v (t : Qz0) : St := ⟨y3Y t.1 :: dd 2 (vI t.2.1 :: vI t.2.2 :: dd 27 []), []⟩
def ygt : Gk vR := fun κ => kx (fun t => κ (some 0) ⟨y3Y t.1 :: dd 2 (vI t.2 :: dd 28 []), []⟩)
def yib : Lp := lpC 3 (unG qz0 y5v) @ygt lpN
theorem yp3 : LF yia yib 112 3 Tryz.f112 0 y5v @ygt fun t => t := fun R κ again t => by kernel_rfl
theorem yp4 : LK yia yib 112 Tryz.f112 0 := lkN (u := (unG qz0 y5v)) (yr fun t => by kernel_rfl) yp3
theorem ytJ : EV yia yib 112 Tryz.f112 ymH [(.sl 5 Ym)] qz0 kM := fun x => by kernel_rfl
def yyY : QF := ⟨112, kM, okN (n := 1) Tryz.func112 ⟨yp4, trivial⟩ ytJ⟩
def Ji (x : Qz1) : Option Int :=
 bif (decide ((Go.IntKind.wrap .i64 ((3 : Int) + (Go.IntKind.wrap .i64 (Int.tdiv (List.length x.1 : Int) (12 : Int))))) > x.2)) then some x.2 else some (Go.IntKind.wrap .i64 ((3 : Int) + (Go.IntKind.wrap .i64 (Int.tdiv (List.length x.1 : Int) (12 : Int)))))
theorem ytK : EV [] lpN 114 Tryz.f114 ymI qz1 [(.int .i64)] Ji := fun x => by kernel_rfl
def yyZ : QF := ⟨114, Ji, okN (n := 0) Tryz.func114 trivial ytK⟩
def YP (x : Qz0) : Option Qz2 :=
 bif (decide (x.2.1 < (List.length x.1 : Int))) then if (0 : Int) ≤ x.2.1 then if x.2.1 < (List.length x.1 : Int) then some ((Go.bits .and .i64 (Go.IntKind.wrap .i64 ((Go.bits .and .i64 (Go.bits .xor .i64 (Int.fdiv (Go.IntKind.wrap .i64 ((Go.IntKind.wrap .i64 (x.2.2 * (6364136223846793005 : Int))) + (1442695040888963407 : Int))) (2 ^ (min (Int.toNat (33 : Int)) (Go.IntKind.bits .i64)))) (Int.fdiv (Go.IntKind.wrap .i64 ((Go.IntKind.wrap .i64 (x.2.2 * (6364136223846793005 : Int))) + (1442695040888963407 : Int))) (2 ^ (min (Int.toNat (47 : Int)) (Go.IntKind.bits .i64))))) (255 : Int)) + (Go.IntKind.wrap .i64 (yl9 x.1 x.2.1)))) (255 : Int)), x.1, (Go.IntKind.wrap .i64 (x.2.1 + (1 : Int))), (Go.IntKind.wrap .i64 ((Go.IntKind.wrap .i64 (x.2.2 * (6364136223846793005 : Int))) + (1442695040888963407 : Int)))) else none else none else some ((Go.bits .and .i64 (Go.bits .xor .i64 (Int.fdiv (Go.IntKind.wrap .i64 ((Go.IntKind.wrap .i64 (x.2.2 * (6364136223846793005 : Int))) + (1442695040888963407 : Int))) (2 ^ (min (Int.toNat (33 : Int)) (Go.IntKind.bits .i64)))) (Int.fdiv (Go.IntKind.wrap .i64 ((Go.IntKind.wrap .i64 (x.2.2 * (6364136223846793005 : Int))) + (1442695040888963407 : Int))) (2 ^ (min (Int.toNat (47 : Int)) (Go.IntKind.bits .i64))))) (255 : Int)), x.1, x.2.1, (Go.IntKind.wrap .i64 ((Go.IntKind.wrap .i64 (x.2.2 * (6364136223846793005 : Int))) + (1442695040888963407 : Int))))
theorem ytL : EV [] lpN 263 Tryz.f263 ymJ qz0 qz2 YP := fun x => by kernel_rfl
def yA3 : QF := ⟨263, YP, okN (n := 0) Tryz.func263 trivial ytL⟩
def yc (x : Qz3) : Option Qz2 :=
 bif (decide (x.2.2.2 ≤ (0 : Int))) then some ((0 : Int), x.1, x.2.1, x.2.2.1) else bif (decide (x.2.2.2 ≤ (256 : Int))) then Option.bind (YP (x.1, x.2.1, x.2.2.1)) fun r1 => if x.2.2.2 = 0 then none else some ((Int.tmod r1.1 x.2.2.2), r1.2.1, r1.2.2.1, r1.2.2.2) else Option.bind (YP (x.1, x.2.1, x.2.2.1)) fun r2 => Option.bind (YP r2.2) fun r3 => Option.bind (YP r3.2) fun r4 => if x.2.2.2 = 0 then none else some ((Int.tmod (Go.IntKind.wrap .i64 ((Go.IntKind.wrap .i64 ((Go.IntKind.wrap .i64 (r2.1 * (65536 : Int))) + (Go.IntKind.wrap .i64 (r3.1 * (256 : Int))))) + r4.1)) x.2.2.2), r4.2.1, r4.2.2.1, r4.2.2.2)
theorem ytM : EV [yA3] lpN 145 Tryz.f145 ymK qz3 qz2 yc := fun x => by kernel_rfl
def y45 : QF := ⟨145, yc, okN (n := 0) Tryz.func145 trivial ytM⟩
def yt (x : Qz4) : Option Qz2 :=
 Option.bind (yc (x.1, x.2.1, x.2.2.1, (List.length x.2.2.2 : Int))) fun r1 => if (0 : Int) ≤ r1.1 then if r1.1 < (List.length x.2.2.2 : Int) then some ((zC x.2.2.2 r1.1), r1.2.1, r1.2.2.1, r1.2.2.2) else none else none
theorem yA4 : EV [y45] lpN 90 Tryz.f90 yyp qz4 qz2 yt := fun x => by kernel_rfl
def q90 : QF := ⟨90, yt, okN (n := 0) Tryz.func90 trivial yA4⟩
def jF (x : Qz5) : Option Qz6 :=
 Option.bind (yc (x.1, x.2.1, x.2.2.1, (List.length x.2.2.2 : Int))) fun r1 => if (0 : Int) ≤ r1.1 then if r1.1 < (List.length x.2.2.2 : Int) then some ((ycx x.2.2.2 r1.1), r1.2.1, r1.2.2.1, r1.2.2.2) else none else none
theorem ytN : EV [y45] lpN 240 Tryz.f240 ymL qz5 qz6 jF := fun x => by kernel_rfl
def ytO : QF := ⟨240, jF, okN (n := 0) Tryz.func240 trivial ytN⟩
def zL (x : Qz0) : Option Qz6 :=
 Option.bind (jF (x.1, x.2.1, x.2.2, ([{ data := #[97] }, { data := #[98] }, { data := #[99] }, { data := #[100] }, { data := #[101, 53] }] : List VO))) fun r1 => some r1
theorem ytP : EV [ytO] lpN 236 Tryz.f236 ymM qz0 qz6 zL := fun x => by kernel_rfl
def yz0 : QF := ⟨236, zL, okN (n := 0) Tryz.func236 trivial ytP⟩
def Yq (x : Qz0) : Option Qz2 :=
 Option.bind (yc (x.1, x.2.1, x.2.2, (200 : Int))) fun r1 => Option.bind (yt (r1.2.1, r1.2.2.1, r1.2.2.2, ([(0 : Int), (1 : Int), (2 : Int), (7 : Int), (65535 : Int), (Go.IntKind.wrap .i64 ((1 : Int) + r1.1))] : List yf))) fun r2 => some r2
theorem ytQ : EV [q90, y45] lpN 241 Tryz.f241 ymN qz0 qz2 Yq := fun x => by kernel_rfl
def yA5 : QF := ⟨241, Yq, okN (n := 0) Tryz.func241 trivial ytQ⟩
def Za (x : Qz0) : Option Qz7 :=
 Option.bind (yt (x.1, x.2.1, x.2.2, ([(1 : Int), (1 : Int), (1 : Int), (2 : Int), (2 : Int), (3 : Int), (4 : Int), (4 : Int), (4 : Int), (4 : Int), (4 : Int), (4 : Int), (5 : Int), (6 : Int), (7 : Int), (7 : Int), (8 : Int), (9 : Int)] : List yf))) fun r1 => bif (decide (r1.1 < (7 : Int))) then Option.bind (jF (r1.2.1, r1.2.2.1, r1.2.2.2, ([{ data := #[97] }, { data := #[97] }, { data := #[98] }, { data := #[99] }, { data := #[100] }] : List VO))) fun r2 => bif (r1.1 == (1 : Int)) then bif (r1.1 == (1 : Int)) then Option.bind (yt (r2.2.1, r2.2.2.1, r2.2.2.2, ([(1 : Int), (3 : Int), (4 : Int), (12 : Int), (5 : Int)] : List yf))) fun r3 => some (r1.1, r2.1, (⟨#[]⟩ : ByteArray), r3.1, (0 : Int), r3.2.1, r3.2.2.1, r3.2.2.2) else bif (r1.1 == (2 : Int)) then Option.bind (zL r2.2) fun r4 => Option.bind (yt (r4.2.1, r4.2.2.1, r4.2.2.2, ([(0 : Int), (0 : Int), (0 : Int), (1 : Int)] : List yf))) fun r5 => some (r1.1, r2.1, r4.1, (0 : Int), r5.1, r5.2.1, r5.2.2.1, r5.2.2.2) else bif (r1.1 == (4 : Int)) then Option.bind (yc (r2.2.1, r2.2.2.1, r2.2.2.2, (5 : Int))) fun r6 => Option.bind (Yq r6.2) fun r7 => some (r1.1, r2.1, (⟨#[]⟩ : ByteArray), r6.1, r7.1, r7.2.1, r7.2.2.1, r7.2.2.2) else bif (r1.1 == (5 : Int)) then Option.bind (yc (r2.2.1, r2.2.2.1, r2.2.2.2, (5 : Int))) fun r8 => some (r1.1, r2.1, (⟨#[]⟩ : ByteArray), r8.1, (0 : Int), r8.2.1, r8.2.2.1, r8.2.2.2) else bif (r1.1 == (8 : Int)) then bif (r1.1 == (8 : Int)) then Option.bind (yc (r2.2.1, r2.2.2.1, r2.2.2.2, (6 : Int))) fun r9 => some (r1.1, r2.1, (⟨#[]⟩ : ByteArray), r9.1, (0 : Int), r9.2.1, r9.2.2.1, r9.2.2.2) else some (r1.1, r2.1, (⟨#[]⟩ : ByteArray), (0 : Int), (0 : Int), r2.2.1, r2.2.2.1, r2.2.2.2) else bif (r1.1 == (9 : Int)) then Option.bind (yc (r2.2.1, r2.2.2.1, r2.2.2.2, (6 : Int))) fun r10 => some (r1.1, r2.1, (⟨#[]⟩ : ByteArray), r10.1, (0 : Int), r10.2.1, r10.2.2.1, r10.2.2.2) else some (r1.1, r2.1, (⟨#[]⟩ : ByteArray), (0 : Int), (0 : Int), r2.2.1, r2.2.2.1, r2.2.2.2) else bif (r1.1 == (6 : Int)) then Option.bind (yt (r2.2.1, r2.2.2.1, r2.2.2.2, ([(1 : Int), (3 : Int), (4 : Int), (12 : Int), (5 : Int)] : List yf))) fun r11 => some (r1.1, r2.1, (⟨#[]⟩ : ByteArray), r11.1, (0 : Int), r11.2.1, r11.2.2.1, r11.2.2.2) else bif (r1.1 == (2 : Int)) then Option.bind (zL r2.2) fun r12 => Option.bind (yt (r12.2.1, r12.2.2.1, r12.2.2.2, ([(0 : Int), (0 : Int), (0 : Int), (1 : Int)] : List yf))) fun r13 => some (r1.1, r2.1, r12.1, (0 : Int), r13.1, r13.2.1, r13.2.2.1, r13.2.2.2) else bif (r1.1 == (4 : Int)) then Option.bind (yc (r2.2.1, r2.2.2.1, r2.2.2.2, (5 : Int))) fun r14 => Option.bind (Yq r14.2) fun r15 => some (r1.1, r2.1, (⟨#[]⟩ : ByteArray), r14.1, r15.1, r15.2.1, r15.2.2.1, r15.2.2.2) else bif (r1.1 == (5 : Int)) then Option.bind (yc (r2.2.1, r2.2.2.1, r2.2.2.2, (5 : Int))) fun r16 => some (r1.1, r2.1, (⟨#[]⟩ : ByteArray), r16.1, (0 : Int), r16.2.1, r16.2.2.1, r16.2.2.2) else bif (r1.1 == (8 : Int)) then bif (r1.1 == (8 : Int)) then Option.bind (yc (r2.2.1, r2.2.2.1, r2.2.2.2, (6 : Int))) fun r17 => some (r1.1, r2.1, (⟨#[]⟩ : ByteArray), r17.1, (0 : Int), r17.2.1, r17.2.2.1, r17.2.2.2) else some (r1.1, r2.1, (⟨#[]⟩ : ByteArray), (0 : Int), (0 : Int), r2.2.1, r2.2.2.1, r2.2.2.2) else bif (r1.1 == (9 : Int)) then Option.bind (yc (r2.2.1, r2.2.2.1, r2.2.2.2, (6 : Int))) fun r18 => some (r1.1, r2.1, (⟨#[]⟩ : ByteArray), r18.1, (0 : Int), r18.2.1, r18.2.2.1, r18.2.2.2) else some (r1.1, r2.1, (⟨#[]⟩ : ByteArray), (0 : Int), (0 : Int), r2.2.1, r2.2.2.1, r2.2.2.2) else bif (r1.1 == (1 : Int)) then bif (r1.1 == (1 : Int)) then Option.bind (yt (r1.2.1, r1.2.2.1, r1.2.2.2, ([(1 : Int), (3 : Int), (4 : Int), (12 : Int), (5 : Int)] : List yf))) fun r19 => some (r1.1, (⟨#[]⟩ : ByteArray), (⟨#[]⟩ : ByteArray), r19.1, (0 : Int), r19.2.1, r19.2.2.1, r19.2.2.2) else bif (r1.1 == (2 : Int)) then Option.bind (zL r1.2) fun r20 => Option.bind (yt (r20.2.1, r20.2.2.1, r20.2.2.2, ([(0 : Int), (0 : Int), (0 : Int), (1 : Int)] : List yf))) fun r21 => some (r1.1, (⟨#[]⟩ : ByteArray), r20.1, (0 : Int), r21.1, r21.2.1, r21.2.2.1, r21.2.2.2) else bif (r1.1 == (4 : Int)) then Option.bind (yc (r1.2.1, r1.2.2.1, r1.2.2.2, (5 : Int))) fun r22 => Option.bind (Yq r22.2) fun r23 => some (r1.1, (⟨#[]⟩ : ByteArray), (⟨#[]⟩ : ByteArray), r22.1, r23.1, r23.2.1, r23.2.2.1, r23.2.2.2) else bif (r1.1 == (5 : Int)) then Option.bind (yc (r1.2.1, r1.2.2.1, r1.2.2.2, (5 : Int))) fun r24 => some (r1.1, (⟨#[]⟩ : ByteArray), (⟨#[]⟩ : ByteArray), r24.1, (0 : Int), r24.2.1, r24.2.2.1, r24.2.2.2) else bif (r1.1 == (8 : Int)) then bif (r1.1 == (8 : Int)) then Option.bind (yc (r1.2.1, r1.2.2.1, r1.2.2.2, (6 : Int))) fun r25 => some (r1.1, (⟨#[]⟩ : ByteArray), (⟨#[]⟩ : ByteArray), r25.1, (0 : Int), r25.2.1, r25.2.2.1, r25.2.2.2) else some (r1.1, (⟨#[]⟩ : ByteArray), (⟨#[]⟩ : ByteArray), (0 : Int), (0 : Int), r1.2.1, r1.2.2.1, r1.2.2.2) else bif (r1.1 == (9 : Int)) then Option.bind (yc (r1.2.1, r1.2.2.1, r1.2.2.2, (6 : Int))) fun r26 => some (r1.1, (⟨#[]⟩ : ByteArray), (⟨#[]⟩ : ByteArray), r26.1, (0 : Int), r26.2.1, r26.2.2.1, r26.2.2.2) else some (r1.1, (⟨#[]⟩ : ByteArray), (⟨#[]⟩ : ByteArray), (0 : Int), (0 : Int), r1.2.1, r1.2.2.1, r1.2.2.2) else bif (r1.1 == (6 : Int)) then Option.bind (yt (r1.2.1, r1.2.2.1, r1.2.2.2, ([(1 : Int), (3 : Int), (4 : Int), (12 : Int), (5 : Int)] : List yf))) fun r27 => some (r1.1, (⟨#[]⟩ : ByteArray), (⟨#[]⟩ : ByteArray), r27.1, (0 : Int), r27.2.1, r27.2.2.1, r27.2.2.2) else bif (r1.1 == (2 : Int)) then Option.bind (zL r1.2) fun r28 => Option.bind (yt (r28.2.1, r28.2.2.1, r28.2.2.2, ([(0 : Int), (0 : Int), (0 : Int), (1 : Int)] : List yf))) fun r29 => some (r1.1, (⟨#[]⟩ : ByteArray), r28.1, (0 : Int), r29.1, r29.2.1, r29.2.2.1, r29.2.2.2) else bif (r1.1 == (4 : Int)) then Option.bind (yc (r1.2.1, r1.2.2.1, r1.2.2.2, (5 : Int))) fun r30 => Option.bind (Yq r30.2) fun r31 => some (r1.1, (⟨#[]⟩ : ByteArray), (⟨#[]⟩ : ByteArray), r30.1, r31.1, r31.2.1, r31.2.2.1, r31.2.2.2) else bif (r1.1 == (5 : Int)) then Option.bind (yc (r1.2.1, r1.2.2.1, r1.2.2.2, (5 : Int))) fun r32 => some (r1.1, (⟨#[]⟩ : ByteArray), (⟨#[]⟩ : ByteArray), r32.1, (0 : Int), r32.2.1, r32.2.2.1, r32.2.2.2) else bif (r1.1 == (8 : Int)) then bif (r1.1 == (8 : Int)) then Option.bind (yc (r1.2.1, r1.2.2.1, r1.2.2.2, (6 : Int))) fun r33 => some (r1.1, (⟨#[]⟩ : ByteArray), (⟨#[]⟩ : ByteArray), r33.1, (0 : Int), r33.2.1, r33.2.2.1, r33.2.2.2) else some (r1.1, (⟨#[]⟩ : ByteArray), (⟨#[]⟩ : ByteArray), (0 : Int), (0 : Int), r1.2.1, r1.2.2.1, r1.2.2.2) else bif (r1.1 == (9 : Int)) then Option.bind (yc (r1.2.1, r1.2.2.1, r1.2.2.2, (6 : Int))) fun r34 => some (r1.1, (⟨#[]⟩ : ByteArray), (⟨#[]⟩ : ByteArray), r34.1, (0 : Int), r34.2.1, r34.2.2.1, r34.2.2.2) else some (r1.1, (⟨#[]⟩ : ByteArray), (⟨#[]⟩ : ByteArray), (0 : Int), (0 : Int), r1.2.1, r1.2.2.1, r1.2.2.2)
theorem ytR : EV [q90, y45, yz0, ytO, yA5] lpN 115 Tryz.f115 ymO qz0 qz7 Za := fun x => by kernel_rfl
def yA6 : QF := ⟨115, Za, okN (n := 0) Tryz.func115 trivial ytR⟩
def jj (x : Unit) : Option Qz8 :=
 some (([(0 : Int)] : List yf), ([([] : List yb)] : List y0))
theorem ytS : EV [] lpN 312 Tryz.f312 ymP [] qz8 jj := fun x => by kernel_rfl
def yz1 : QF := ⟨312, jj, okN (n := 0) Tryz.func312 trivial ytS⟩
def Zg (x : Unit) : Option (List y9) :=
 if (0 : Int) ≤ (24 : Int) then if (24 : Int) ≤ (24 : Int) then if (24 : Int) * ((24 : Nat) : Int) ≤ 140737488351232 then some (List.replicate (Int.toNat (24 : Int)) yS) else none else none else none
theorem ytT : EV [] lpN 313 Tryz.f313 ymQ [] [(.sl 113 ye)] Zg := fun x => by kernel_rfl
def yz2 : QF := ⟨313, Zg, okN (n := 0) Tryz.func313 trivial ytT⟩
def ky (x : Unit) : Option Qz9 :=
 Option.bind (jj ()) fun r1 => Option.bind (Zg ()) fun r2 => some (r1.1, r1.2, ([] : List yd), r2, ([] : List ym), (1 : Int))
theorem ytU : EV [yz1, yz2] lpN 238 Tryz.f238 ymR [] qz9 ky := fun x => by kernel_rfl
def yA7 : QF := ⟨238, ky, okN (n := 0) Tryz.func238 trivial ytU⟩
abbrev Kz : Type := ygp ⊕ yhZ
def Yw (k0 : Unit → Option R) (k1 : List yb → Option R) (again : Kz → Option R) : Kz → Option R
 | .inl t3 => bif (decide (t3.1 < (List.length t3.2 : Int))) then if (0 : Int) ≤ t3.1 then if t3.1 < (List.length t3.2 : Int) then if (List.length ([] : List ya) + List.length (yp t3.2 t3.1)) * 40 < 140737488355328 then if List.length ([(([] : List ya) ++ (yp t3.2 t3.1))] : List yb) * 24 < 140737488355328 then again (Sum.inr ((Go.IntKind.wrap .i64 (t3.1 + (1 : Int))), t3.2, ([(([] : List ya) ++ (yp t3.2 t3.1))] : List yb))) else none else none else none else none else k0 ()
 | .inr t3 => bif (decide (t3.1 < (List.length t3.2.1 : Int))) then if (0 : Int) ≤ t3.1 then if t3.1 < (List.length t3.2.1 : Int) then if (List.length ([] : List ya) + List.length (yp t3.2.1 t3.1)) * 40 < 140737488355328 then if (List.length t3.2.2 + List.length ([(([] : List ya) ++ (yp t3.2.1 t3.1))] : List yb)) * 24 < 140737488355328 then again (Sum.inr ((Go.IntKind.wrap .i64 (t3.1 + (1 : Int))), t3.2.1, (t3.2.2 ++ ([(([] : List ya) ++ (yp t3.2.1 t3.1))] : List yb)))) else none else none else none else none else k1 t3.2.2
def qO k0 k1 := zE (@Yw R k0 k1) zW
def ze (x : List yb) : Option (List yb) :=
 qO (fun x1 => some ([] : List yb)) (fun x2 => some x2) (Sum.inl ((0 : Int), x))
def ycM : List QF := []
def y2g (t : ygp) : St := ⟨.dead :: .box 1 0 :: .box 2 0 :: .box 3 0 :: vI t.1 :: dd 21 [], [(1, .box [Yj t.2]), (2, .box [.nils]), (3, .box [.nils])]⟩
theorem yeA : ∀ s t, unG ys3 y2g s = some t → y2g t = s := yr fun t => by kernel_rfl
def y2h (t : yhZ) : St := ⟨.dead :: .box 1 0 :: .box 2 0 :: .box 3 0 :: vI t.1 :: dd 21 [], [(1, .box [Yj t.2.1]), (2, .box [.nils]), (3, .box [.own 10000000]), (10000000, .root true 58 yn t.2.2)]⟩
theorem yeB : ∀ s t, unG ys4 y2h s = some t → y2h t = s := yr fun t => by kernel_rfl
def y2i : (ygp ⊕ yhZ) → St := Sum.elim y2g y2h
def y5w (s : St) : Option (ygp ⊕ yhZ) := ((unG ys3 y2g s).map Sum.inl).or (((unG ys4 y2h) s).map Sum.inr)
theorem yeC : ∀ s t, y5w s = some t → y2i t = s := y3h yeA yeB
def yau : Gk Kz := fun κ => Yw (fun t => κ (some 0) ⟨dd 2 (.box 2 0 :: .box 3 0 :: dd 22 []), [(2, .box [.nils]), (3, .box [.nils])]⟩) (fun t => κ (some 0) ⟨dd 2 (.box 2 0 :: .box 3 0 :: dd 22 []), [(2, .box [.nils]), (3, .box [.own 10000000]), (10000000, .root true 58 yn t)]⟩)
def ycN : Lp := lpC 3 y5w @yau lpN
theorem yeD : LF ycM ycN 299 3 Tryz.f299 0 y2i @yau fun v : ygp => .inl v := fun R κ again v => by kernel_rfl
theorem yeE : LF ycM ycN 299 3 Tryz.f299 0 y2i @yau fun v : yhZ => .inr v := fun R κ again v => by kernel_rfl
theorem yp5 : LF ycM ycN 299 3 Tryz.f299 0 y2i @yau fun t => t := (LC.sum yeD yeE)
theorem yp6 : LK ycM ycN 299 Tryz.f299 0 := lkN (u := y5w) yeC yp5
theorem ytV : EV ycM ycN 299 Tryz.f299 ymS [(.sl 58 yn)] [(.sl 58 yn)] ze := fun x => by kernel_rfl
def yz3 : QF := ⟨299, ze, okN (n := 1) Tryz.func299 ⟨yp6, trivial⟩ ytV⟩
abbrev KA : Type := yla ⊕ yi0
def Yx (k0 : List yf → Option R) (k1 : Qz8 → Option R) (again : KA → Option R) : KA → Option R
 | .inl t3 => bif (decide (t3.1 < (List.length t3.2.2.1 : Int))) then if (0 : Int) ≤ t3.1 then if t3.1 < (List.length t3.2.2.1 : Int) then Option.bind (ze (yg t3.2.2.1 t3.1)) fun r1 => if List.length ([r1] : List y0) * 24 < 140737488355328 then again (Sum.inr ((Go.IntKind.wrap .i64 (t3.1 + (1 : Int))), t3.2.1, t3.2.2.1, t3.2.2.2, ([r1] : List y0))) else none else none else none else k0 t3.2.2.2
 | .inr t3 => bif (decide (t3.1 < (List.length t3.2.2.1 : Int))) then if (0 : Int) ≤ t3.1 then if t3.1 < (List.length t3.2.2.1 : Int) then Option.bind (ze (yg t3.2.2.1 t3.1)) fun r2 => if (List.length t3.2.2.2.2 + List.length ([r2] : List y0)) * 24 < 140737488355328 then again (Sum.inr ((Go.IntKind.wrap .i64 (t3.1 + (1 : Int))), t3.2.1, t3.2.2.1, t3.2.2.2.1, (t3.2.2.2.2 ++ ([r2] : List y0)))) else none else none else none else k1 t3.2.2.2
def qP k0 k1 := zE (@Yx R k0 k1) zW
def YQ (x : Qz8) : Option Qz8 :=
 if (List.length ([] : List yf) + List.length x.1) * 8 < 140737488355328 then qP (fun x3 => some (x3, ([] : List y0))) (fun x4 => some x4) (Sum.inl ((0 : Int), x.1, x.2, (([] : List yf) ++ x.1))) else none
def ycO : List QF := [yz3]
def y2j (t : yla) : St := ⟨.dead :: .box 1 0 :: .box 2 0 :: .box 3 0 :: vI t.1 :: dd 24 [], [(1, .box [z7 t.2.1, yu t.2.2.1]), (2, .box [.nils, .nils]), (3, .box [.own 10000000, .nils]), (10000000, .root true 3 yi t.2.2.2)]⟩
theorem yeF : ∀ s t, unG yxk y2j s = some t → y2j t = s := yr fun t => by kernel_rfl
def y2k (t : yi0) : St := ⟨.dead :: .box 1 0 :: .box 2 0 :: .box 3 0 :: vI t.1 :: dd 24 [], [(1, .box [z7 t.2.1, yu t.2.2.1]), (2, .box [.nils, .nils]), (3, .box [.own 10000000, .own 10000001]), (10000000, .root true 3 yi t.2.2.2.1), (10000001, .root true 140 yh t.2.2.2.2)]⟩
theorem yeG : ∀ s t, unG ys5 y2k s = some t → y2k t = s := yr fun t => by kernel_rfl
def y2l : (yla ⊕ yi0) → St := Sum.elim y2j y2k
def y5x (s : St) : Option (yla ⊕ yi0) := ((unG yxk y2j s).map Sum.inl).or (((unG ys5 y2k) s).map Sum.inr)
theorem yeH : ∀ s t, y5x s = some t → y2l t = s := y3h yeF yeG
def yav : Gk KA := fun κ => Yx (fun t => κ (some 0) ⟨dd 2 (.box 2 0 :: .box 3 0 :: dd 25 []), [(2, .box [.nils, .nils]), (3, .box [.own 10000000, .nils]), (10000000, .root true 3 yi t)]⟩) (fun t => κ (some 0) ⟨dd 2 (.box 2 0 :: .box 3 0 :: dd 25 []), [(2, .box [.nils, .nils]), (3, .box [.own 10000000, .own 10000001]), (10000000, .root true 3 yi t.1), (10000001, .root true 140 yh t.2)]⟩)
def ycP : Lp := lpC 3 y5x @yav lpN
theorem yeI : LF ycO ycP 210 3 Tryz.f210 0 y2l @yav fun v : yla => .inl v := fun R κ again v => by kernel_rfl
theorem yeJ : LF ycO ycP 210 3 Tryz.f210 0 y2l @yav fun v : yi0 => .inr v := fun R κ again v => by kernel_rfl
theorem yp7 : LF ycO ycP 210 3 Tryz.f210 0 y2l @yav fun t => t := (LC.sum yeI yeJ)
theorem yp8 : LK ycO ycP 210 Tryz.f210 0 := lkN (u := y5x) yeH yp7
theorem ytW : EV ycO ycP 210 Tryz.f210 ymT qz8 qz8 YQ := fun x => by kernel_rfl
def ytX : QF := ⟨210, YQ, okN (n := 1) Tryz.func210 ⟨yp8, trivial⟩ ytW⟩
def zR (x : List y9) : Option (List y9) :=
 if (List.length ([] : List y9) + List.length x) * 24 < 140737488355328 then some (([] : List y9) ++ x) else none
theorem ytY : EV [] lpN 211 Tryz.f211 ymU [(.sl 113 ye)] [(.sl 113 ye)] zR := fun x => by kernel_rfl
def ytZ : QF := ⟨211, zR, okN (n := 0) Tryz.func211 trivial ytY⟩
def yl (x : Qz9) : Option Qz9 :=
 Option.bind (YQ (x.1, x.2.1)) fun r1 => if (List.length ([] : List yd) + List.length x.2.2.1) * 16 < 140737488355328 then Option.bind (zR x.2.2.2.1) fun r2 => if (List.length ([] : List ym) + List.length x.2.2.2.2.1) * 40 < 140737488355328 then some (r1.1, r1.2, (([] : List yd) ++ x.2.2.1), r2, (([] : List ym) ++ x.2.2.2.2.1), x.2.2.2.2.2) else none else none
theorem yA8 : EV [ytX, ytZ] lpN 94 Tryz.f94 yyq qz9 qz9 yl := fun x => by kernel_rfl
def q94 : QF := ⟨94, yl, okN (n := 0) Tryz.func94 trivial yA8⟩
def yz (x : ysI) : Option Bool :=
 Option.bind (bif (decide (x.1 ≥ x.2.1)) then some (decide (x.1 ≤ x.2.2)) else some false) fun u1 => some u1
theorem yA9 : EV [] lpN 96 Tryz.f96 yyr ysJ [.bool] yz := fun x => by kernel_rfl
def q96 : QF := ⟨96, yz, okN (n := 0) Tryz.func96 trivial yA9⟩
abbrev VP : Type := ys6
def wS (k0 : List ya → Option R) (again : VP → Option R) (t3 : VP) : Option R :=
 bif (decide (t3.2.1 < (List.length t3.1 : Int))) then if (0 : Int) ≤ t3.2.1 then if t3.2.1 < (List.length t3.1 : Int) then bif ((y8 t3.1 t3.2.1).2.2.1 != (0 : Int)) then if (0 : Int) ≤ t3.2.1 then if t3.2.1 < (List.length t3.1 : Int) then if (List.length t3.2.2 + List.length ([((y8 t3.1 t3.2.1).1, (y8 t3.1 t3.2.1).2.1, (y8 t3.1 t3.2.1).2.2.1, (y8 t3.1 t3.2.1).2.2.2.1, (y8 t3.1 t3.2.1).2.2.2.2)] : List ya)) * 40 < 140737488355328 then again (t3.1, (Go.IntKind.wrap .i64 (t3.2.1 + (1 : Int))), (t3.2.2 ++ ([((y8 t3.1 t3.2.1).1, (y8 t3.1 t3.2.1).2.1, (y8 t3.1 t3.2.1).2.2.1, (y8 t3.1 t3.2.1).2.2.2.1, (y8 t3.1 t3.2.1).2.2.2.2)] : List ya))) else none else none else none else again (t3.1, (Go.IntKind.wrap .i64 (t3.2.1 + (1 : Int))), t3.2.2) else none else none else k0 t3.2.2
def y0J k0 := zE (@wS R k0) zW
def zS (x : List ya) : Option (List ya) :=
 y0J (fun x1 => some x1) (x, (0 : Int), ([] : List ya))
def yic : List QF := []
def y5y (t : ys6) : St := ⟨VN t.1 :: dd 2 (.own 10000000 :: vI t.2.1 :: dd 21 []), [(10000000, .root true 64 yk t.2.2)]⟩
def ygu : Gk VP := fun κ => wS (fun t => κ (some 0) ⟨dd 3 (.own 10000000 :: dd 22 []), [(10000000, .root true 64 yk t)]⟩)
def yid : Lp := lpC 3 (unG ys7 y5y) @ygu lpN
theorem yp9 : LF yic yid 230 3 Tryz.f230 0 y5y @ygu fun t => t := fun R κ again t => by kernel_rfl
theorem ypa : LK yic yid 230 Tryz.f230 0 := lkN (u := (unG ys7 y5y)) (yr fun t => by kernel_rfl) yp9
theorem yu0 : EV yic yid 230 Tryz.f230 ymV [(.sl 64 yk)] [(.sl 64 yk)] zS := fun x => by kernel_rfl
def yu1 : QF := ⟨230, zS, okN (n := 1) Tryz.func230 ⟨ypa, trivial⟩ yu0⟩
def jk (x : ys8) : Option Bool :=
 bif (x.1 != x.2.2.2.2.2.1) then some (decide (x.1 < x.2.2.2.2.2.1)) else some (decide (x.2.1 < x.2.2.2.2.2.2.1))
theorem yu2 : EV [] lpN 307 Tryz.f307 ymW ys9 [.bool] jk := fun x => by kernel_rfl
def yz4 : QF := ⟨307, jk, okN (n := 0) Tryz.func307 trivial yu2⟩
def Zh (x : ys8) : Option Bool :=
 Option.bind (bif (x.1 == x.2.2.2.2.2.1) then some (x.2.1 == x.2.2.2.2.2.2.1) else some false) fun u1 => some u1
theorem yu3 : EV [] lpN 308 Tryz.f308 ymX ys9 [.bool] Zh := fun x => by kernel_rfl
def yAa : QF := ⟨308, Zh, okN (n := 0) Tryz.func308 trivial yu3⟩
abbrev wT : Type := yxl
def Yy (k0 : yxn → Option R) (again : wT → Option R) (t4 : wT) : Option R :=
 bif (decide (t4.2.2.1 < (List.length t4.1 : Int))) then Option.bind (bif (!t4.2.1) then if (0 : Int) ≤ t4.2.2.1 then if t4.2.2.1 < (List.length t4.1 : Int) then Option.bind (jk ((y8 t4.1 t4.2.2.1).1, (y8 t4.1 t4.2.2.1).2.1, (y8 t4.1 t4.2.2.1).2.2.1, (y8 t4.1 t4.2.2.1).2.2.2.1, (y8 t4.1 t4.2.2.1).2.2.2.2, t4.2.2.2.1, t4.2.2.2.2.1, t4.2.2.2.2.2.1, t4.2.2.2.2.2.2.1, t4.2.2.2.2.2.2.2.1)) fun r2 => some (!r2) else none else none else some false) fun u1 => bif u1 then if (List.length t4.2.2.2.2.2.2.2.2 + List.length ([(t4.2.2.2.1, t4.2.2.2.2.1, t4.2.2.2.2.2.1, t4.2.2.2.2.2.2.1, t4.2.2.2.2.2.2.2.1)] : List ya)) * 40 < 140737488355328 then if (0 : Int) ≤ t4.2.2.1 then if t4.2.2.1 < (List.length t4.1 : Int) then Option.bind (Zh ((y8 t4.1 t4.2.2.1).1, (y8 t4.1 t4.2.2.1).2.1, (y8 t4.1 t4.2.2.1).2.2.1, (y8 t4.1 t4.2.2.1).2.2.2.1, (y8 t4.1 t4.2.2.1).2.2.2.2, t4.2.2.2.1, t4.2.2.2.2.1, t4.2.2.2.2.2.1, t4.2.2.2.2.2.2.1, t4.2.2.2.2.2.2.2.1)) fun r3 => bif (!r3) then if (0 : Int) ≤ t4.2.2.1 then if t4.2.2.1 < (List.length t4.1 : Int) then if (List.length (t4.2.2.2.2.2.2.2.2 ++ ([(t4.2.2.2.1, t4.2.2.2.2.1, t4.2.2.2.2.2.1, t4.2.2.2.2.2.2.1, t4.2.2.2.2.2.2.2.1)] : List ya)) + List.length ([((y8 t4.1 t4.2.2.1).1, (y8 t4.1 t4.2.2.1).2.1, (y8 t4.1 t4.2.2.1).2.2.1, (y8 t4.1 t4.2.2.1).2.2.2.1, (y8 t4.1 t4.2.2.1).2.2.2.2)] : List ya)) * 40 < 140737488355328 then again (t4.1, true, (Go.IntKind.wrap .i64 (t4.2.2.1 + (1 : Int))), t4.2.2.2.1, t4.2.2.2.2.1, t4.2.2.2.2.2.1, t4.2.2.2.2.2.2.1, t4.2.2.2.2.2.2.2.1, ((t4.2.2.2.2.2.2.2.2 ++ ([(t4.2.2.2.1, t4.2.2.2.2.1, t4.2.2.2.2.2.1, t4.2.2.2.2.2.2.1, t4.2.2.2.2.2.2.2.1)] : List ya)) ++ ([((y8 t4.1 t4.2.2.1).1, (y8 t4.1 t4.2.2.1).2.1, (y8 t4.1 t4.2.2.1).2.2.1, (y8 t4.1 t4.2.2.1).2.2.2.1, (y8 t4.1 t4.2.2.1).2.2.2.2)] : List ya))) else none else none else none else again (t4.1, true, (Go.IntKind.wrap .i64 (t4.2.2.1 + (1 : Int))), t4.2.2.2.1, t4.2.2.2.2.1, t4.2.2.2.2.2.1, t4.2.2.2.2.2.2.1, t4.2.2.2.2.2.2.2.1, (t4.2.2.2.2.2.2.2.2 ++ ([(t4.2.2.2.1, t4.2.2.2.2.1, t4.2.2.2.2.2.1, t4.2.2.2.2.2.2.1, t4.2.2.2.2.2.2.2.1)] : List ya))) else none else none else none else if (0 : Int) ≤ t4.2.2.1 then if t4.2.2.1 < (List.length t4.1 : Int) then Option.bind (Zh ((y8 t4.1 t4.2.2.1).1, (y8 t4.1 t4.2.2.1).2.1, (y8 t4.1 t4.2.2.1).2.2.1, (y8 t4.1 t4.2.2.1).2.2.2.1, (y8 t4.1 t4.2.2.1).2.2.2.2, t4.2.2.2.1, t4.2.2.2.2.1, t4.2.2.2.2.2.1, t4.2.2.2.2.2.2.1, t4.2.2.2.2.2.2.2.1)) fun r4 => bif (!r4) then if (0 : Int) ≤ t4.2.2.1 then if t4.2.2.1 < (List.length t4.1 : Int) then if (List.length t4.2.2.2.2.2.2.2.2 + List.length ([((y8 t4.1 t4.2.2.1).1, (y8 t4.1 t4.2.2.1).2.1, (y8 t4.1 t4.2.2.1).2.2.1, (y8 t4.1 t4.2.2.1).2.2.2.1, (y8 t4.1 t4.2.2.1).2.2.2.2)] : List ya)) * 40 < 140737488355328 then again (t4.1, t4.2.1, (Go.IntKind.wrap .i64 (t4.2.2.1 + (1 : Int))), t4.2.2.2.1, t4.2.2.2.2.1, t4.2.2.2.2.2.1, t4.2.2.2.2.2.2.1, t4.2.2.2.2.2.2.2.1, (t4.2.2.2.2.2.2.2.2 ++ ([((y8 t4.1 t4.2.2.1).1, (y8 t4.1 t4.2.2.1).2.1, (y8 t4.1 t4.2.2.1).2.2.1, (y8 t4.1 t4.2.2.1).2.2.2.1, (y8 t4.1 t4.2.2.1).2.2.2.2)] : List ya))) else none else none else none else again (t4.1, t4.2.1, (Go.IntKind.wrap .i64 (t4.2.2.1 + (1 : Int))), t4.2.2.2.1, t4.2.2.2.2.1, t4.2.2.2.2.2.1, t4.2.2.2.2.2.2.1, t4.2.2.2.2.2.2.2.1, t4.2.2.2.2.2.2.2.2) else none else none else k0 (t4.2.1, t4.2.2.2)
def KB k0 := zE (@Yy R k0) zW
def zp (x : yxo) : Option (List ya) :=
 KB (fun x5 => bif (!x5.1) then if (List.length x5.2.2.2.2.2.2 + List.length ([(x5.2.1, x5.2.2.1, x5.2.2.2.1, x5.2.2.2.2.1, x5.2.2.2.2.2.1)] : List ya)) * 40 < 140737488355328 then some (x5.2.2.2.2.2.2 ++ ([(x5.2.1, x5.2.2.1, x5.2.2.2.1, x5.2.2.2.2.1, x5.2.2.2.2.2.1)] : List ya)) else none else some x5.2.2.2.2.2.2) (x.1, false, (0 : Int), x.2.1, x.2.2.1, x.2.2.2.1, x.2.2.2.2.1, x.2.2.2.2.2, ([] : List ya))
def yie : List QF := [yz4, yAa]
def y5z (t : yxl) : St := ⟨VN t.1 :: dd 2 (.box 3 0 :: .dead :: .own 10000000 :: vB t.2.1 :: vI t.2.2.1 :: dd 43 []), [(3, .box [vI t.2.2.2.1, vI t.2.2.2.2.1, vI t.2.2.2.2.2.1, vI t.2.2.2.2.2.2.1, vI t.2.2.2.2.2.2.2.1]), (10000000, .root true 64 yk t.2.2.2.2.2.2.2.2)]⟩
def ygv : Gk wT := fun κ => Yy (fun t => κ (some 0) ⟨dd 3 (.box 3 0 :: .dead :: .own 10000000 :: vB t.1 :: dd 44 []), [(3, .box [vI t.2.1, vI t.2.2.1, vI t.2.2.2.1, vI t.2.2.2.2.1, vI t.2.2.2.2.2.1]), (10000000, .root true 64 yk t.2.2.2.2.2.2)]⟩)
def yif : Lp := lpC 4 (unG yxm y5z) @ygv lpN
theorem ypb : LF yie yif 231 4 Tryz.f231 0 y5z @ygv fun t => t := fun R κ again t => by kernel_rfl
theorem ypc : LK yie yif 231 Tryz.f231 0 := lkN (u := (unG yxm y5z)) (yr fun t => by kernel_rfl) ypb
theorem yu4 : EV yie yif 231 Tryz.f231 ymY yxp [(.sl 64 yk)] zp := fun x => by kernel_rfl
def ysl : QF := ⟨231, zp, okN (n := 1) Tryz.func231 ⟨ypc, trivial⟩ yu4⟩
abbrev wU : Type := ys6
def YR (k0 : List ya → Option R) (again : wU → Option R) (t3 : wU) : Option R :=
 bif (decide (t3.2.1 < (List.length t3.1 : Int))) then if (0 : Int) ≤ t3.2.1 then if t3.2.1 < (List.length t3.1 : Int) then Option.bind (zp (t3.2.2, (y8 t3.1 t3.2.1).1, (y8 t3.1 t3.2.1).2.1, (y8 t3.1 t3.2.1).2.2.1, (y8 t3.1 t3.2.1).2.2.2.1, (y8 t3.1 t3.2.1).2.2.2.2)) fun r1 => again (t3.1, (Go.IntKind.wrap .i64 (t3.2.1 + (1 : Int))), r1) else none else none else k0 t3.2.2
def vF k0 := zE (@YR R k0) zW
def YK (x : ysK) : Option (List ya) :=
 if (List.length ([] : List ya) + List.length x.1) * 40 < 140737488355328 then vF (fun x2 => some x2) (x.2, (0 : Int), (([] : List ya) ++ x.1)) else none
def yig : List QF := [ysl]
def y5A (t : ys6) : St := ⟨.dead :: VN t.1 :: dd 3 (.own 10000000 :: vI t.2.1 :: dd 16 []), [(10000000, .root true 64 yk t.2.2)]⟩
def ygw : Gk wU := fun κ => YR (fun t => κ (some 0) ⟨dd 5 (.own 10000000 :: dd 17 []), [(10000000, .root true 64 yk t)]⟩)
def yih : Lp := lpC 3 (unG ys7 y5A) @ygw lpN
theorem ypd : LF yig yih 309 3 Tryz.f309 0 y5A @ygw fun t => t := fun R κ again t => by kernel_rfl
theorem ype : LK yig yih 309 Tryz.f309 0 := lkN (u := (unG ys7 y5A)) (yr fun t => by kernel_rfl) ypd
theorem yu5 : EV yig yih 309 Tryz.f309 ymZ ysL [(.sl 64 yk)] YK := fun x => by kernel_rfl
def yAb : QF := ⟨309, YK, okN (n := 1) Tryz.func309 ⟨ype, trivial⟩ yu5⟩
abbrev WU : Type := yxq
def Zi (k0 : List ya → Option R) (again : WU → Option R) (t3 : WU) : Option R :=
 bif (decide (t3.1 < (List.length t3.2.1 : Int))) then if (0 : Int) ≤ t3.1 then if t3.1 < (List.length t3.2.1 : Int) then Option.bind (YK (t3.2.2, (yp t3.2.1 t3.1))) fun r1 => again ((Go.IntKind.wrap .i64 (t3.1 + (1 : Int))), t3.2.1, r1) else none else none else k0 t3.2.2
def Vg k0 := zE (@Zi R k0) zW
def yA (x : List yb) : Option (List ya) :=
 Vg (fun x2 => Option.bind (zS x2) fun r3 => some r3) ((0 : Int), x, ([] : List ya))
def yii : List QF := [yu1, yAb]
def y5B (t : yxq) : St := ⟨.dead :: .box 1 0 :: .dead :: .own 10000000 :: vI t.1 :: dd 17 [], [(1, .box [Yj t.2.1]), (10000000, .root true 64 yk t.2.2)]⟩
def ygx : Gk WU := fun κ => Zi (fun t => κ (some 0) ⟨dd 3 (.own 10000000 :: dd 18 []), [(10000000, .root true 64 yk t)]⟩)
def yij : Lp := lpC 3 (unG yxr y5B) @ygx lpN
theorem ypf : LF yii yij 232 3 Tryz.f232 0 y5B @ygx fun t => t := fun R κ again t => by kernel_rfl
theorem ypg : LK yii yij 232 Tryz.f232 0 := lkN (u := (unG yxr y5B)) (yr fun t => by kernel_rfl) ypf
theorem yu6 : EV yii yij 232 Tryz.f232 yn0 [(.sl 58 yn)] [(.sl 64 yk)] yA := fun x => by kernel_rfl
def yik : QF := ⟨232, yA, okN (n := 1) Tryz.func232 ⟨ypg, trivial⟩ yu6⟩
abbrev WV : Type := yxs
def Zj (k0 : List ya → Option R) (again : WV → Option R) (t3 : WV) : Option R :=
 bif (decide (t3.1 < (List.length t3.2.2.1 : Int))) then if (0 : Int) ≤ t3.1 then if t3.1 < (List.length t3.2.2.1 : Int) then Option.bind (yA (yg t3.2.2.1 t3.1)) fun r1 => if (List.length t3.2.2.2 + List.length r1) * 40 < 140737488355328 then again ((Go.IntKind.wrap .i64 (t3.1 + (1 : Int))), t3.2.1, t3.2.2.1, (t3.2.2.2 ++ r1)) else none else none else none else k0 t3.2.2.2
def Vh k0 := zE (@Zj R k0) zW
def yG (x : Qz8) : Option (List ya) :=
 Vh (fun x2 => some x2) ((0 : Int), x.1, x.2, ([] : List ya))
def yil : List QF := [yik]
def y5C (t : yxs) : St := ⟨.dead :: .box 1 0 :: .dead :: .own 10000000 :: vI t.1 :: dd 17 [], [(1, .box [z7 t.2.1, yu t.2.2.1]), (10000000, .root true 64 yk t.2.2.2)]⟩
def ygy : Gk WV := fun κ => Zj (fun t => κ (some 0) ⟨dd 3 (.own 10000000 :: dd 18 []), [(10000000, .root true 64 yk t)]⟩)
def yim : Lp := lpC 3 (unG yxt y5C) @ygy lpN
theorem yph : LF yil yim 137 3 Tryz.f137 0 y5C @ygy fun t => t := fun R κ again t => by kernel_rfl
theorem ypi : LK yil yim 137 Tryz.f137 0 := lkN (u := (unG yxt y5C)) (yr fun t => by kernel_rfl) yph
theorem yu7 : EV yil yim 137 Tryz.f137 yn1 qz8 [(.sl 64 yk)] yG := fun x => by kernel_rfl
def yin : QF := ⟨137, yG, okN (n := 1) Tryz.func137 ⟨ypi, trivial⟩ yu7⟩
def Jj (x : ykI) : Option Int :=
 some (Go.IntKind.wrap .i64 ((Go.IntKind.wrap .i64 ((64 : Int) * x.1)) + x.2))
theorem yu8 : EV [] lpN 304 Tryz.f304 yn2 ylb [(.int .i64)] Jj := fun x => by kernel_rfl
def yz5 : QF := ⟨304, Jj, okN (n := 0) Tryz.func304 trivial yu8⟩
def Jk (x : yes) : Option Int :=
 Option.bind (Jj (x.1, x.2.1)) fun r1 => some r1
theorem yu9 : EV [yz5] lpN 233 Tryz.f233 yn3 VA [(.int .i64)] Jk := fun x => by kernel_rfl
def yz6 : QF := ⟨233, Jk, okN (n := 0) Tryz.func233 trivial yu9⟩
def wF (x : yes) : Option Bool :=
 Option.bind (yz (x.1, (0 : Int), (15 : Int))) fun r1 => Option.bind (bif (!r1) then some true else Option.bind (yz (x.2.1, (1 : Int), (60 : Int))) fun r3 => some (!r3)) fun u2 => Option.bind (bif u2 then some true else Option.bind (yz (x.2.2.1, (0 : Int), (2 : Int))) fun r5 => some (!r5)) fun u4 => bif u4 then some false else bif (x.2.2.1 == (1 : Int)) then Option.bind (yz (x.2.2.2.1, (0 : Int), (23 : Int))) fun r6 => Option.bind (bif r6 then Option.bind (yz (x.2.2.2.2, (0 : Int), (999 : Int))) fun r8 => some r8 else some false) fun u7 => some u7 else Option.bind (bif (x.2.2.2.1 == (0 : Int)) then some (x.2.2.2.2 == (0 : Int)) else some false) fun u9 => some u9
theorem yua : EV [q96] lpN 226 Tryz.f226 yn4 VA [.bool] wF := fun x => by kernel_rfl
def yz7 : QF := ⟨226, wF, okN (n := 0) Tryz.func226 trivial yua⟩
abbrev K0 : Type := ysa
def ZU (k0 : Bool → Option R) (k1 : Unit → Option R) (again : K0 → Option R) (t2 : K0) : Option R :=
 bif (decide (t2.2 < (List.length t2.1 : Int))) then if (0 : Int) ≤ (Go.IntKind.wrap .i64 (t2.2 - (1 : Int))) then if (Go.IntKind.wrap .i64 (t2.2 - (1 : Int))) < (List.length t2.1 : Int) then if (0 : Int) ≤ t2.2 then if t2.2 < (List.length t2.1 : Int) then Option.bind (jk ((y8 t2.1 (Go.IntKind.wrap .i64 (t2.2 - (1 : Int)))).1, (y8 t2.1 (Go.IntKind.wrap .i64 (t2.2 - (1 : Int)))).2.1, (y8 t2.1 (Go.IntKind.wrap .i64 (t2.2 - (1 : Int)))).2.2.1, (y8 t2.1 (Go.IntKind.wrap .i64 (t2.2 - (1 : Int)))).2.2.2.1, (y8 t2.1 (Go.IntKind.wrap .i64 (t2.2 - (1 : Int)))).2.2.2.2, (y8 t2.1 t2.2).1, (y8 t2.1 t2.2).2.1, (y8 t2.1 t2.2).2.2.1, (y8 t2.1 t2.2).2.2.2.1, (y8 t2.1 t2.2).2.2.2.2)) fun r1 => bif (!r1) then k0 false else again (t2.1, (Go.IntKind.wrap .i64 (t2.2 + (1 : Int)))) else none else none else none else none else k1 ()
def qf k0 k1 := zE (@ZU R k0 k1) zW
def JH (x : List ya) : Option Bool :=
 qf (fun x2 => some x2) (fun x3 => some true) (x, (1 : Int))
def yio : List QF := [yz4]
def y5D (t : ysa) : St := ⟨VN t.1 :: dd 2 (vI t.2 :: dd 17 []), []⟩
def ygz : Gk K0 := fun κ => ZU (fun t => κ none ⟨dd 2 (vB t :: dd 18 []), []⟩) (fun t => κ (some 0) ⟨dd 21 [], []⟩)
def yip : Lp := lpC 2 (unG ysb y5D) @ygz lpN
theorem ypj : LF yio yip 359 2 Tryz.f359 0 y5D @ygz fun t => t := fun R κ again t => by kernel_rfl
theorem ypk : LK yio yip 359 Tryz.f359 0 := lkN (u := (unG ysb y5D)) (yr fun t => by kernel_rfl) ypj
theorem yub : EV yio yip 359 Tryz.f359 yn5 [(.sl 64 yk)] [.bool] JH := fun x => by kernel_rfl
def yAc : QF := ⟨359, JH, okN (n := 1) Tryz.func359 ⟨ypk, trivial⟩ yub⟩
abbrev vT : Type := ysa
def JI (k0 : yxu → Option R) (k1 : List ya → Option R) (again : vT → Option R) (t2 : vT) : Option R :=
 bif (decide (t2.2 < (List.length t2.1 : Int))) then if (0 : Int) ≤ t2.2 then if t2.2 < (List.length t2.1 : Int) then Option.bind (wF ((y8 t2.1 t2.2).1, (y8 t2.1 t2.2).2.1, (y8 t2.1 t2.2).2.2.1, (y8 t2.1 t2.2).2.2.2.1, (y8 t2.1 t2.2).2.2.2.2)) fun r1 => bif (!r1) then k0 (t2.1, false) else again (t2.1, (Go.IntKind.wrap .i64 (t2.2 + (1 : Int)))) else none else none else k1 t2.1
def QW k0 k1 := zE (@JI R k0 k1) zW
def kN (x : List ya) : Option Bool :=
 QW (fun x2 => some x2.2) (fun x3 => Option.bind (JH x3) fun r4 => Option.bind (bif r4 then some (decide ((List.length x3 : Int) ≤ (60 : Int))) else some false) fun u5 => some u5) (x, (0 : Int))
def yiq : List QF := [yz7, yAc]
def y5E (t : ysa) : St := ⟨VN t.1 :: dd 2 (vI t.2 :: dd 19 []), []⟩
def ygA : Gk vT := fun κ => JI (fun t => κ none ⟨VN t.1 :: .dead :: vB t.2 :: dd 20 [], []⟩) (fun t => κ (some 0) ⟨VN t :: dd 22 [], []⟩)
def yir : Lp := lpC 2 (unG ysb y5E) @ygA lpN
theorem ypl : LF yiq yir 344 2 Tryz.f344 0 y5E @ygA fun t => t := fun R κ again t => by kernel_rfl
theorem ypm : LK yiq yir 344 Tryz.f344 0 := lkN (u := (unG ysb y5E)) (yr fun t => by kernel_rfl) ypl
theorem yuc : EV yiq yir 344 Tryz.f344 yn6 [(.sl 64 yk)] [.bool] kN := fun x => by kernel_rfl
def yAd : QF := ⟨344, kN, okN (n := 1) Tryz.func344 ⟨ypm, trivial⟩ yuc⟩
abbrev K1 : Type := yxv
def ZV (k0 : Int → Option R) (again : K1 → Option R) (t3 : K1) : Option R :=
 bif (decide (t3.2.1 < (List.length t3.2.2 : Int))) then if (0 : Int) ≤ t3.2.1 then if t3.2.1 < (List.length t3.2.2 : Int) then again ((Go.IntKind.wrap .i64 (t3.1 + (List.length (yp t3.2.2 t3.2.1) : Int))), (Go.IntKind.wrap .i64 (t3.2.1 + (1 : Int))), t3.2.2) else none else none else k0 t3.1
def qg k0 := zE (@ZV R k0) zW
def JJ (x : List yb) : Option Int :=
 qg (fun x1 => some x1) ((0 : Int), (0 : Int), x)
def yis : List QF := []
def y5F (t : yxv) : St := ⟨.dead :: .box 1 0 :: .dead :: vI t.1 :: vI t.2.1 :: dd 16 [], [(1, .box [Yj t.2.2])]⟩
def ygB : Gk K1 := fun κ => ZV (fun t => κ (some 0) ⟨dd 3 (vI t :: dd 17 []), []⟩)
def yit : Lp := lpC 3 (unG yxw y5F) @ygB lpN
theorem ypn : LF yis yit 345 3 Tryz.f345 0 y5F @ygB fun t => t := fun R κ again t => by kernel_rfl
theorem ypo : LK yis yit 345 Tryz.f345 0 := lkN (u := (unG yxw y5F)) (yr fun t => by kernel_rfl) ypn
theorem yud : EV yis yit 345 Tryz.f345 yn7 [(.sl 58 yn)] [(.int .i64)] JJ := fun x => by kernel_rfl
def yAe : QF := ⟨345, JJ, okN (n := 1) Tryz.func345 ⟨ypo, trivial⟩ yud⟩
abbrev KC : Type := ygp
def jG (k0 : yzB → Option R) (k1 : List yb → Option R) (again : KC → Option R) (t2 : KC) : Option R :=
 bif (decide (t2.1 < (List.length t2.2 : Int))) then if (0 : Int) ≤ t2.1 then if t2.1 < (List.length t2.2 : Int) then Option.bind (kN (yp t2.2 t2.1)) fun r1 => Option.bind (bif (!r1) then some true else if (0 : Int) ≤ t2.1 then if t2.1 < (List.length t2.2 : Int) then some ((List.length (yp t2.2 t2.1) : Int) == (0 : Int)) else none else none) fun u2 => bif u2 then k0 (false, t2.2) else again ((Go.IntKind.wrap .i64 (t2.1 + (1 : Int))), t2.2) else none else none else k1 t2.2
def qQ k0 k1 := zE (@jG R k0 k1) zW
def zl (x : List yb) : Option Bool :=
 qQ (fun x3 => some x3.1) (fun x4 => Option.bind (bif (decide ((List.length x4 : Int) ≤ (3 : Int))) then Option.bind (JJ x4) fun r6 => some (decide (r6 ≤ (8 : Int))) else some false) fun u5 => some u5) ((0 : Int), x)
def yiu : List QF := [yAd, yAe]
def y5G (t : ygp) : St := ⟨.dead :: .box 1 0 :: .dead :: vI t.1 :: dd 32 [], [(1, .box [Yj t.2])]⟩
def ygC : Gk KC := fun κ => jG (fun t => κ none ⟨.dead :: .box 1 0 :: vB t.1 :: dd 33 [], [(1, .box [Yj t.2])]⟩) (fun t => κ (some 0) ⟨.dead :: .box 1 0 :: dd 34 [], [(1, .box [Yj t])]⟩)
def yiv : Lp := lpC 2 (unG ys3 y5G) @ygC lpN
theorem ypp : LF yiu yiv 306 2 Tryz.f306 0 y5G @ygC fun t => t := fun R κ again t => by kernel_rfl
theorem ypq : LK yiu yiv 306 Tryz.f306 0 := lkN (u := (unG ys3 y5G)) (yr fun t => by kernel_rfl) ypp
theorem yue : EV yiu yiv 306 Tryz.f306 yn8 [(.sl 58 yn)] [.bool] zl := fun x => by kernel_rfl
def yz8 : QF := ⟨306, zl, okN (n := 1) Tryz.func306 ⟨ypq, trivial⟩ yue⟩
abbrev KD : Type := yxx
def jH (k0 : yzC → Option R) (k1 : ysM → Option R) (again : KD → Option R) (t8 : KD) : Option R :=
 if (0 : Int) ≤ t8.2.1 then if t8.2.1 < (List.length t8.2.2.2.2.2 : Int) then bif (decide (t8.2.2.1 < (List.length (yp t8.2.2.2.2.2 t8.2.1) : Int))) then if (0 : Int) ≤ t8.2.1 then if t8.2.1 < (List.length t8.2.2.2.2.2 : Int) then if (0 : Int) ≤ t8.2.2.1 then if t8.2.2.1 < (List.length (yp t8.2.2.2.2.2 t8.2.1) : Int) then Option.bind (Jk ((y8 (yp t8.2.2.2.2.2 t8.2.1) t8.2.2.1).1, (y8 (yp t8.2.2.2.2.2 t8.2.1) t8.2.2.1).2.1, (y8 (yp t8.2.2.2.2.2 t8.2.1) t8.2.2.1).2.2.1, (y8 (yp t8.2.2.2.2.2 t8.2.1) t8.2.2.1).2.2.2.1, (y8 (yp t8.2.2.2.2.2 t8.2.1) t8.2.2.1).2.2.2.2)) fun r5 => if (0 : Int) ≤ t8.1 then if t8.1 < (List.length t8.2.2.2.1 : Int) then Option.bind (bif (decide (r5 < (zC t8.2.2.2.1 t8.1))) then some true else Option.bind (bif (decide ((Go.IntKind.wrap .i64 (t8.1 + (1 : Int))) < (List.length t8.2.2.2.1 : Int))) then if (0 : Int) ≤ (Go.IntKind.wrap .i64 (t8.1 + (1 : Int))) then if (Go.IntKind.wrap .i64 (t8.1 + (1 : Int))) < (List.length t8.2.2.2.1 : Int) then some (decide (r5 ≥ (zC t8.2.2.2.1 (Go.IntKind.wrap .i64 (t8.1 + (1 : Int)))))) else none else none else some false) fun u7 => some u7) fun u6 => bif u6 then k0 (t8.1, false, t8.2.1, t8.2.2.2) else again (t8.1, t8.2.1, (Go.IntKind.wrap .i64 (t8.2.2.1 + (1 : Int))), t8.2.2.2.1, t8.2.2.2.2.1, t8.2.2.2.2.2) else none else none else none else none else none else none else k1 (t8.1, t8.2.1, t8.2.2.2) else none else none
def KE k0 k1 := zE (@jH R k0 k1) zW
abbrev KF : Type := ysM
def jI (k0 : Bool → Option R) (k1 : Unit → Option R) (again : KF → Option R) (t5 : KF) : Option R :=
 bif (decide (t5.2.1 < (List.length t5.2.2.2.2 : Int))) then KE (fun x8 => k0 x8.2.1) (fun x9 => again (x9.1, (Go.IntKind.wrap .i64 (x9.2.1 + (1 : Int))), x9.2.2.1, x9.2.2.2.1, x9.2.2.2.2)) (t5.1, t5.2.1, (0 : Int), t5.2.2.1, t5.2.2.2.1, t5.2.2.2.2) else k1 ()
def KG k0 k1 := zE (@jI R k0 k1) zW
def wV (x : ylc) : Option Bool :=
 if (0 : Int) ≤ x.2.2 then if x.2.2 < (List.length x.2.1 : Int) then Option.bind (zl (yg x.2.1 x.2.2)) fun r1 => Option.bind (bif (!r1) then some true else Option.bind (bif (decide (x.2.2 > (0 : Int))) then Option.bind (yA (yg x.2.1 x.2.2)) fun r4 => some ((List.length r4 : Int) == (0 : Int)) else some false) fun u3 => some u3) fun u2 => bif u2 then some false else KG (fun x10 => some x10) (fun x11 => some true) (x.2.2, (0 : Int), x.1, x.2.1, (yg x.2.1 x.2.2)) else none else none
def ycQ : List QF := [yik, yz6, yz8]
def y5H (t : yxx) : St := ⟨.dead :: vI t.1 :: .box 2 0 :: dd 2 (.box 5 0 :: vI t.2.1 :: vI t.2.2.1 :: dd 70 []), [(2, .box [z7 t.2.2.2.1, yu t.2.2.2.2.1]), (5, .box [Yj t.2.2.2.2.2])]⟩
def ygD : Gk KD := fun κ => jH (fun t => κ none ⟨.dead :: vI t.1 :: .box 2 0 :: .dead :: vB t.2.1 :: .box 5 0 :: vI t.2.2.1 :: dd 71 [], [(2, .box [z7 t.2.2.2.1, yu t.2.2.2.2.1]), (5, .box [Yj t.2.2.2.2.2])]⟩) (fun t => κ (some 2) ⟨.dead :: vI t.1 :: .box 2 0 :: dd 2 (.box 5 0 :: vI t.2.1 :: dd 71 []), [(2, .box [z7 t.2.2.1, yu t.2.2.2.1]), (5, .box [Yj t.2.2.2.2])]⟩)
def y5I (t : ysM) : St := ⟨.dead :: vI t.1 :: .box 2 0 :: dd 2 (.box 5 0 :: vI t.2.1 :: dd 71 []), [(2, .box [z7 t.2.2.1, yu t.2.2.2.1]), (5, .box [Yj t.2.2.2.2])]⟩
def ygE : Gk KF := fun κ => jI (fun t => κ none ⟨dd 4 (vB t :: dd 73 []), []⟩) (fun t => κ (some 0) ⟨dd 78 [], []⟩)
def ycR : Lp := lpC 5 (unG yxz y5I) @ygE (lpC 8 (unG yxy y5H) @ygD lpN)
theorem ypr : LF ycQ ycR 300 8 Tryz.f300 1 y5H @ygD fun t => t := fun R κ again t => by kernel_rfl
theorem yps : LK ycQ ycR 300 Tryz.f300 1 := lkN (u := (unG yxy y5H)) (yr fun t => by kernel_rfl) ypr
theorem ypt : LF ycQ ycR 300 5 Tryz.f300 0 y5I @ygE fun t => t := fun R κ again t => by kernel_rfl
theorem ypu : LK ycQ ycR 300 Tryz.f300 0 := lkN (u := (unG yxz y5I)) (yr fun t => by kernel_rfl) ypt
theorem yuf : EV ycQ ycR 300 Tryz.f300 yn9 yld [.bool] wV := fun x => by kernel_rfl
def yAf : QF := ⟨300, wV, okN (n := 2) Tryz.func300 ⟨ypu, yps, trivial⟩ yuf⟩
abbrev KH : Type := y8L
def jJ (k0 : yzD → Option R) (k1 : Qz8 → Option R) (again : KH → Option R) (t4 : KH) : Option R :=
 bif (decide (t4.1 < (List.length t4.2.2 : Int))) then Option.bind (bif (decide (t4.1 > (0 : Int))) then if (0 : Int) ≤ (Go.IntKind.wrap .i64 (t4.1 - (1 : Int))) then if (Go.IntKind.wrap .i64 (t4.1 - (1 : Int))) < (List.length t4.2.1 : Int) then if (0 : Int) ≤ t4.1 then if t4.1 < (List.length t4.2.1 : Int) then some (decide ((zC t4.2.1 (Go.IntKind.wrap .i64 (t4.1 - (1 : Int)))) ≥ (zC t4.2.1 t4.1))) else none else none else none else none else some false) fun u4 => Option.bind (bif u4 then some true else Option.bind (wV (t4.2.1, t4.2.2, t4.1)) fun r6 => some (!r6)) fun u5 => bif u5 then k0 (false, t4.2) else again ((Go.IntKind.wrap .i64 (t4.1 + (1 : Int))), t4.2.1, t4.2.2) else k1 t4.2
def qR k0 k1 := zE (@jJ R k0 k1) zW
def Y9 (x : Qz8) : Option Bool :=
 Option.bind (yz ((List.length x.2 : Int), (1 : Int), (20 : Int))) fun r1 => Option.bind (bif (!r1) then some true else some ((List.length x.1 : Int) != (List.length x.2 : Int))) fun u2 => Option.bind (bif u2 then some true else if (0 : Int) ≤ (0 : Int) then if (0 : Int) < (List.length x.1 : Int) then some ((zC x.1 (0 : Int)) != (0 : Int)) else none else none) fun u3 => bif u3 then some false else qR (fun x7 => some x7.1) (fun x8 => Option.bind (yG x8) fun r9 => some (decide ((List.length r9 : Int) ≤ (60 : Int)))) ((0 : Int), x.1, x.2)
def yiw : List QF := [q96, yin, yAf]
def y5J (t : y8L) : St := ⟨.dead :: .box 1 0 :: .dead :: vI t.1 :: dd 54 [], [(1, .box [z7 t.2.1, yu t.2.2])]⟩
def ygF : Gk KH := fun κ => jJ (fun t => κ none ⟨.dead :: .box 1 0 :: vB t.1 :: dd 55 [], [(1, .box [z7 t.2.1, yu t.2.2])]⟩) (fun t => κ (some 0) ⟨.dead :: .box 1 0 :: dd 56 [], [(1, .box [z7 t.1, yu t.2])]⟩)
def yix : Lp := lpC 4 (unG ydN y5J) @ygF lpN
theorem ypv : LF yiw yix 212 4 Tryz.f212 0 y5J @ygF fun t => t := fun R κ again t => by kernel_rfl
theorem ypw : LK yiw yix 212 Tryz.f212 0 := lkN (u := (unG ydN y5J)) (yr fun t => by kernel_rfl) ypv
theorem yug : EV yiw yix 212 Tryz.f212 yna qz8 [.bool] Y9 := fun x => by kernel_rfl
def yz9 : QF := ⟨212, Y9, okN (n := 1) Tryz.func212 ⟨ypw, trivial⟩ yug⟩
abbrev vU : Type := ysN
def JK (k0 : Int → Option R) (k1 : Unit → Option R) (again : vU → Option R) (t2 : vU) : Option R :=
 bif (decide (t2.2.2 < (List.length t2.1 : Int))) then if (0 : Int) ≤ t2.2.2 then if t2.2.2 < (List.length t2.1 : Int) then bif ((yK t2.1 t2.2.2).1 == t2.2.1) then k0 t2.2.2 else again (t2.1, t2.2.1, (Go.IntKind.wrap .i64 (t2.2.2 + (1 : Int)))) else none else none else k1 ()
def QX k0 k1 := zE (@JK R k0 k1) zW
def zD (x : yet) : Option Int :=
 QX (fun x1 => some x1) (fun x2 => some (-1 : Int)) (x.1, x.2, (0 : Int))
def yiy : List QF := []
def y5K (t : ysN) : St := ⟨zk t.1 :: vI t.2.1 :: dd 3 (vI t.2.2 :: dd 14 []), []⟩
def ygG : Gk vU := fun κ => JK (fun t => κ none ⟨dd 4 (vI t :: dd 15 []), []⟩) (fun t => κ (some 0) ⟨dd 20 [], []⟩)
def yiz : Lp := lpC 2 (unG ysO y5K) @ygG lpN
theorem ypx : LF yiy yiz 262 2 Tryz.f262 0 y5K @ygG fun t => t := fun R κ again t => by kernel_rfl
theorem ypy : LK yiy yiz 262 Tryz.f262 0 := lkN (u := (unG ysO y5K)) (yr fun t => by kernel_rfl) ypx
theorem yuh : EV yiy yiz 262 Tryz.f262 ynb yeu [(.int .i64)] zD := fun x => by kernel_rfl
def ykP : QF := ⟨262, zD, okN (n := 1) Tryz.func262 ⟨ypy, trivial⟩ yuh⟩
abbrev KI : Type := yet
def jK (k0 : ysc → Option R) (k1 : List yd → Option R) (again : KI → Option R) (t2 : KI) : Option R :=
 bif (decide (t2.2 < (List.length t2.1 : Int))) then if (0 : Int) ≤ t2.2 then if t2.2 < (List.length t2.1 : Int) then Option.bind (yz ((yK t2.1 t2.2).1, (1 : Int), (60 : Int))) fun r1 => Option.bind (bif (!r1) then some true else Option.bind (bif (decide (t2.2 > (0 : Int))) then if (0 : Int) ≤ (Go.IntKind.wrap .i64 (t2.2 - (1 : Int))) then if (Go.IntKind.wrap .i64 (t2.2 - (1 : Int))) < (List.length t2.1 : Int) then if (0 : Int) ≤ t2.2 then if t2.2 < (List.length t2.1 : Int) then some (decide ((yK t2.1 (Go.IntKind.wrap .i64 (t2.2 - (1 : Int)))).1 ≥ (yK t2.1 t2.2).1)) else none else none else none else none else some false) fun u3 => some u3) fun u2 => bif u2 then k0 (t2.1, false) else if (0 : Int) ≤ t2.2 then if t2.2 < (List.length t2.1 : Int) then Option.bind (bif ((yK t2.1 t2.2).2 != (0 : Int)) then if (0 : Int) ≤ (0 : Int) then if (0 : Int) ≤ t2.2 then if t2.2 ≤ (List.length t2.1 : Int) then if (0 : Int) ≤ t2.2 then if t2.2 < (List.length t2.1 : Int) then Option.bind (zD ((List.drop (Int.toNat (0 : Int)) (List.take (Int.toNat t2.2) t2.1)), (yK t2.1 t2.2).2)) fun r5 => some (decide (r5 < (0 : Int))) else none else none else none else none else none else some false) fun u4 => bif u4 then k0 (t2.1, false) else again (t2.1, (Go.IntKind.wrap .i64 (t2.2 + (1 : Int)))) else none else none else none else none else k1 t2.1
def qS k0 k1 := zE (@jK R k0 k1) zW
def YS (x : List yd) : Option Bool :=
 qS (fun x6 => some x6.2) (fun x7 => some (decide ((List.length x7 : Int) ≤ (16 : Int)))) (x, (0 : Int))
def yiA : List QF := [q96, ykP]
def y5L (t : yet) : St := ⟨zk t.1 :: dd 2 (vI t.2 :: dd 52 []), []⟩
def ygH : Gk KI := fun κ => jK (fun t => κ none ⟨zk t.1 :: .dead :: vB t.2 :: dd 53 [], []⟩) (fun t => κ (some 0) ⟨zk t :: dd 55 [], []⟩)
def yiB : Lp := lpC 2 (unG yeu y5L) @ygH lpN
theorem ypz : LF yiA yiB 213 2 Tryz.f213 0 y5L @ygH fun t => t := fun R κ again t => by kernel_rfl
theorem ypA : LK yiA yiB 213 Tryz.f213 0 := lkN (u := (unG yeu y5L)) (yr fun t => by kernel_rfl) ypz
theorem yui : EV yiA yiB 213 Tryz.f213 ync [(.sl 146 yo)] [.bool] YS := fun x => by kernel_rfl
def yuj : QF := ⟨213, YS, okN (n := 1) Tryz.func213 ⟨ypA, trivial⟩ yui⟩
def zm (x : Int) : Option Bool :=
 Option.bind (yz (x, (0 : Int), (65535 : Int))) fun r1 => some r1
theorem yuk : EV [q96] lpN 182 Tryz.f182 ynd [(.int .i64)] [.bool] zm := fun x => by kernel_rfl
def ysm : QF := ⟨182, zm, okN (n := 0) Tryz.func182 trivial yuk⟩
abbrev K2 : Type := ygq
def ZW (k0 : yxB → Option R) (k1 : List y9 → Option R) (again : K2 → Option R) (t2 : K2) : Option R :=
 bif (decide (t2.2 < (List.length t2.1 : Int))) then if (0 : Int) ≤ t2.2 then if t2.2 < (List.length t2.1 : Int) then Option.bind (yz ((yj t2.1 t2.2).1, (0 : Int), (999 : Int))) fun r1 => Option.bind (bif (!r1) then some true else if (0 : Int) ≤ t2.2 then if t2.2 < (List.length t2.1 : Int) then Option.bind (zm ((yj t2.1 t2.2).2.2)) fun r3 => some (!r3) else none else none) fun u2 => Option.bind (bif u2 then some true else if (0 : Int) ≤ t2.2 then if t2.2 < (List.length t2.1 : Int) then Option.bind (bif (!((yj t2.1 t2.2).2.1)) then if (0 : Int) ≤ t2.2 then if t2.2 < (List.length t2.1 : Int) then some ((yj t2.1 t2.2).2.2 != (0 : Int)) else none else none else some false) fun u5 => some u5 else none else none) fun u4 => bif u4 then k0 (t2.1, false) else again (t2.1, (Go.IntKind.wrap .i64 (t2.2 + (1 : Int)))) else none else none else k1 t2.1
def qh k0 k1 := zE (@ZW R k0 k1) zW
def Zb (x : List y9) : Option Bool :=
 qh (fun x6 => some x6.2) (fun x7 => some ((List.length x7 : Int) == (24 : Int))) (x, (0 : Int))
def yiC : List QF := [q96, ysm]
def y5M (t : ygq) : St := ⟨yN t.1 :: dd 2 (vI t.2 :: dd 41 []), []⟩
def ygI : Gk K2 := fun κ => ZW (fun t => κ none ⟨yN t.1 :: .dead :: vB t.2 :: dd 42 [], []⟩) (fun t => κ (some 0) ⟨yN t :: dd 44 [], []⟩)
def yiD : Lp := lpC 2 (unG ygr y5M) @ygI lpN
theorem ypB : LF yiC yiD 214 2 Tryz.f214 0 y5M @ygI fun t => t := fun R κ again t => by kernel_rfl
theorem ypC : LK yiC yiD 214 Tryz.f214 0 := lkN (u := (unG ygr y5M)) (yr fun t => by kernel_rfl) ypB
theorem yul : EV yiC yiD 214 Tryz.f214 yne [(.sl 113 ye)] [.bool] Zb := fun x => by kernel_rfl
def yum : QF := ⟨214, Zb, okN (n := 1) Tryz.func214 ⟨ypC, trivial⟩ yul⟩
abbrev KJ : Type := ysd
def KK (k0 : yxC → Option R) (k1 : ByteArray → Option R) (again : KJ → Option R) (t2 : KJ) : Option R :=
 bif (decide (t2.2 < ((ByteArray.size t2.1 : Nat) : Int))) then if (0 : Int) ≤ t2.2 then if h1 : Int.toNat t2.2 < ByteArray.size t2.1 then Option.bind (yz ((Go.IntKind.wrap .i64 ((UInt8.toNat (ByteArray.get t2.1 (Int.toNat t2.2) h1) : Nat) : Int)), (97 : Int), (122 : Int))) fun r2 => Option.bind (bif (!r2) then if (0 : Int) ≤ t2.2 then if h4 : Int.toNat t2.2 < ByteArray.size t2.1 then Option.bind (yz ((Go.IntKind.wrap .i64 ((UInt8.toNat (ByteArray.get t2.1 (Int.toNat t2.2) h4) : Nat) : Int)), (48 : Int), (57 : Int))) fun r5 => some (!r5) else none else none else some false) fun u3 => bif u3 then k0 (t2.1, false) else again (t2.1, (Go.IntKind.wrap .i64 (t2.2 + (1 : Int)))) else none else none else k1 t2.1
def qT k0 k1 := zE (@KK R k0 k1) zW
def Ya (x : ByteArray) : Option Bool :=
 qT (fun x6 => some x6.2) (fun x7 => Option.bind (yz (((ByteArray.size x7 : Nat) : Int), (1 : Int), (6 : Int))) fun r8 => some r8) (x, (0 : Int))
def yiE : List QF := [q96]
def y5N (t : ysd) : St := ⟨vS t.1 :: dd 2 (vI t.2 :: dd 23 []), []⟩
def ygJ : Gk KJ := fun κ => KK (fun t => κ none ⟨vS t.1 :: .dead :: vB t.2 :: dd 24 [], []⟩) (fun t => κ (some 0) ⟨vS t :: dd 26 [], []⟩)
def yiF : Lp := lpC 2 (unG yse y5N) @ygJ lpN
theorem ypD : LF yiE yiF 178 2 Tryz.f178 0 y5N @ygJ fun t => t := fun R κ again t => by kernel_rfl
theorem ypE : LK yiE yiF 178 Tryz.f178 0 := lkN (u := (unG yse y5N)) (yr fun t => by kernel_rfl) ypD
theorem yun : EV yiE yiF 178 Tryz.f178 ynf [.str] [.bool] Ya := fun x => by kernel_rfl
def ysn : QF := ⟨178, Ya, okN (n := 1) Tryz.func178 ⟨ypE, trivial⟩ yun⟩
abbrev KL : Type := yxD
def jL (k0 : List yf → Option R) (again : KL → Option R) (t3 : KL) : Option R :=
 bif (decide (t3.2.2.1 < (List.length t3.1 : Int))) then if (0 : Int) ≤ t3.2.2.1 then if t3.2.2.1 < (List.length t3.1 : Int) then Option.bind (bif ((yK t3.1 t3.2.2.1).2 == t3.2.1) then some (t3.2.1 != (0 : Int)) else some false) fun u1 => bif u1 then if (0 : Int) ≤ t3.2.2.1 then if t3.2.2.1 < (List.length t3.1 : Int) then if (List.length t3.2.2.2 + List.length ([(yK t3.1 t3.2.2.1).1] : List yf)) * 8 < 140737488355328 then again (t3.1, t3.2.1, (Go.IntKind.wrap .i64 (t3.2.2.1 + (1 : Int))), (t3.2.2.2 ++ ([(yK t3.1 t3.2.2.1).1] : List yf))) else none else none else none else again (t3.1, t3.2.1, (Go.IntKind.wrap .i64 (t3.2.2.1 + (1 : Int))), t3.2.2.2) else none else none else k0 t3.2.2.2
def qU k0 := zE (@jL R k0) zW
def ZM (x : yet) : Option (List yf) :=
 qU (fun x2 => some x2) (x.1, x.2, (0 : Int), ([] : List yf))
def yiG : List QF := []
def y5O (t : yxD) : St := ⟨zk t.1 :: vI t.2.1 :: dd 3 (.own 10000000 :: vI t.2.2.1 :: dd 27 []), [(10000000, .root true 3 yi t.2.2.2)]⟩
def ygK : Gk KL := fun κ => jL (fun t => κ (some 0) ⟨dd 5 (.own 10000000 :: dd 28 []), [(10000000, .root true 3 yi t)]⟩)
def yiH : Lp := lpC 3 (unG yxE y5O) @ygK lpN
theorem ypF : LF yiG yiH 260 3 Tryz.f260 0 y5O @ygK fun t => t := fun R κ again t => by kernel_rfl
theorem ypG : LK yiG yiH 260 Tryz.f260 0 := lkN (u := (unG yxE y5O)) (yr fun t => by kernel_rfl) ypF
theorem yuo : EV yiG yiH 260 Tryz.f260 yng yeu [(.sl 3 yi)] ZM := fun x => by kernel_rfl
def yup : QF := ⟨260, ZM, okN (n := 1) Tryz.func260 ⟨ypG, trivial⟩ yuo⟩
abbrev K3 : Type := yxF
def ZX (k0 : ysP → Option R) (k1 : ybB → Option R) (again : K3 → Option R) (t8 : K3) : Option R :=
 bif (decide (t8.2.1 < t8.1)) then if (0 : Int) ≤ t8.2.1 then if t8.2.1 < (List.length t8.2.2.2.2.2.2.1 : Int) then bif ((yq t8.2.2.2.2.2.2.1 t8.2.1).2.1 == t8.2.2.2.2.2.2.2.2.2.1) then k0 (false, t8.1, t8.2.2.1, t8.2.2.2.1, t8.2.2.2.2.1, t8.2.2.2.2.2.1, t8.2.2.2.2.2.2.1, t8.2.2.2.2.2.2.2.1) else again (t8.1, (Go.IntKind.wrap .i64 (t8.2.1 + (1 : Int))), t8.2.2.1, t8.2.2.2.1, t8.2.2.2.2.1, t8.2.2.2.2.2.1, t8.2.2.2.2.2.2.1, t8.2.2.2.2.2.2.2.1, t8.2.2.2.2.2.2.2.2.1, t8.2.2.2.2.2.2.2.2.2.1, t8.2.2.2.2.2.2.2.2.2.2.1, t8.2.2.2.2.2.2.2.2.2.2.2) else none else none else k1 (t8.1, t8.2.2.1, t8.2.2.2.1, t8.2.2.2.2.1, t8.2.2.2.2.2.1, t8.2.2.2.2.2.2.1, t8.2.2.2.2.2.2.2.1)
def K4 k0 k1 := zE (@ZX R k0 k1) zW
abbrev K5 : Type := ybB
def ZY (k0 : yi1 → Option R) (k1 : Qz9 → Option R) (again : K5 → Option R) (t2 : K5) : Option R :=
 bif (decide (t2.1 < (List.length t2.2.2.2.2.2.1 : Int))) then if (0 : Int) ≤ t2.1 then if t2.1 < (List.length t2.2.2.2.2.2.1 : Int) then Option.bind (Ya ((yq t2.2.2.2.2.2.1 t2.1).1)) fun r1 => Option.bind (bif (!r1) then some true else Option.bind (yz ((yq t2.2.2.2.2.2.1 t2.1).2.2.1, (1 : Int), (12 : Int))) fun r3 => some (!r3)) fun u2 => Option.bind (bif u2 then some true else Option.bind (zD (t2.2.2.2.1, (yq t2.2.2.2.2.2.1 t2.1).2.1)) fun r5 => some (decide (r5 < (0 : Int)))) fun u4 => Option.bind (bif u4 then some true else Option.bind (ZM (t2.2.2.2.1, (yq t2.2.2.2.2.2.1 t2.1).2.1)) fun r7 => some (decide ((List.length r7 : Int) > (0 : Int)))) fun u6 => Option.bind (bif u6 then some true else Option.bind (bif (decide (t2.1 > (0 : Int))) then if (0 : Int) ≤ (Go.IntKind.wrap .i64 (t2.1 - (1 : Int))) then if (Go.IntKind.wrap .i64 (t2.1 - (1 : Int))) < (List.length t2.2.2.2.2.2.1 : Int) then some (!Go.Op.bytesLess (ByteArray.toList ((yq t2.2.2.2.2.2.1 (Go.IntKind.wrap .i64 (t2.1 - (1 : Int)))).1)) (ByteArray.toList ((yq t2.2.2.2.2.2.1 t2.1).1))) else none else none else some false) fun u9 => some u9) fun u8 => bif u8 then k0 (false, t2.2) else K4 (fun x10 => k0 (x10.1, x10.2.2)) (fun x11 => again ((Go.IntKind.wrap .i64 (x11.1 + (1 : Int))), x11.2.1, x11.2.2.1, x11.2.2.2.1, x11.2.2.2.2.1, x11.2.2.2.2.2.1, x11.2.2.2.2.2.2)) (t2.1, (0 : Int), t2.2.1, t2.2.2.1, t2.2.2.2.1, t2.2.2.2.2.1, t2.2.2.2.2.2.1, t2.2.2.2.2.2.2, (yq t2.2.2.2.2.2.1 t2.1).1, (yq t2.2.2.2.2.2.1 t2.1).2.1, (yq t2.2.2.2.2.2.1 t2.1).2.2.1, (yq t2.2.2.2.2.2.1 t2.1).2.2.2) else none else none else k1 t2.2
def qi k0 k1 := zE (@ZY R k0 k1) zW
def JL (x : Qz9) : Option Bool :=
 qi (fun x12 => some x12.1) (fun x13 => some (decide ((List.length x13.2.2.2.2.1 : Int) ≤ (6 : Int)))) ((0 : Int), x.1, x.2.1, x.2.2.1, x.2.2.2.1, x.2.2.2.2.1, x.2.2.2.2.2)
def ycS : List QF := [q96, ysn, yup, ykP]
def y5P (t : yxF) : St := ⟨.dead :: .box 1 0 :: .dead :: vI t.1 :: .box 4 0 :: vI t.2.1 :: dd 73 [], [(1, .box [z7 t.2.2.1, yu t.2.2.2.1, zk t.2.2.2.2.1, yN t.2.2.2.2.2.1, Y3 t.2.2.2.2.2.2.1, vI t.2.2.2.2.2.2.2.1]), (4, .box [vS t.2.2.2.2.2.2.2.2.1, vI t.2.2.2.2.2.2.2.2.2.1, vI t.2.2.2.2.2.2.2.2.2.2.1, vB t.2.2.2.2.2.2.2.2.2.2.2])]⟩
def ygL : Gk K3 := fun κ => ZX (fun t => κ none ⟨.dead :: .box 1 0 :: vB t.1 :: vI t.2.1 :: dd 75 [], [(1, .box [z7 t.2.2.1, yu t.2.2.2.1, zk t.2.2.2.2.1, yN t.2.2.2.2.2.1, Y3 t.2.2.2.2.2.2.1, vI t.2.2.2.2.2.2.2])]⟩) (fun t => κ (some 2) ⟨.dead :: .box 1 0 :: .dead :: vI t.1 :: dd 75 [], [(1, .box [z7 t.2.1, yu t.2.2.1, zk t.2.2.2.1, yN t.2.2.2.2.1, Y3 t.2.2.2.2.2.1, vI t.2.2.2.2.2.2])]⟩)
def y5Q (t : ybB) : St := ⟨.dead :: .box 1 0 :: .dead :: vI t.1 :: dd 75 [], [(1, .box [z7 t.2.1, yu t.2.2.1, zk t.2.2.2.1, yN t.2.2.2.2.1, Y3 t.2.2.2.2.2.1, vI t.2.2.2.2.2.2])]⟩
def ygM : Gk K5 := fun κ => ZY (fun t => κ none ⟨.dead :: .box 1 0 :: vB t.1 :: dd 76 [], [(1, .box [z7 t.2.1, yu t.2.2.1, zk t.2.2.2.1, yN t.2.2.2.2.1, Y3 t.2.2.2.2.2.1, vI t.2.2.2.2.2.2])]⟩) (fun t => κ (some 0) ⟨.dead :: .box 1 0 :: dd 77 [], [(1, .box [z7 t.1, yu t.2.1, zk t.2.2.1, yN t.2.2.2.1, Y3 t.2.2.2.2.1, vI t.2.2.2.2.2])]⟩)
def ycT : Lp := lpC 2 (unG ygs y5Q) @ygM (lpC 8 (unG yxG y5P) @ygL lpN)
theorem ypH : LF ycS ycT 215 8 Tryz.f215 1 y5P @ygL fun t => t := fun R κ again t => by kernel_rfl
theorem ypI : LK ycS ycT 215 Tryz.f215 1 := lkN (u := (unG yxG y5P)) (yr fun t => by kernel_rfl) ypH
theorem ypJ : LF ycS ycT 215 2 Tryz.f215 0 y5Q @ygM fun t => t := fun R κ again t => by kernel_rfl
theorem ypK : LK ycS ycT 215 Tryz.f215 0 := lkN (u := (unG ygs y5Q)) (yr fun t => by kernel_rfl) ypJ
theorem yuq : EV ycS ycT 215 Tryz.f215 ynh qz9 [.bool] JL := fun x => by kernel_rfl
def yAg : QF := ⟨215, JL, okN (n := 2) Tryz.func215 ⟨ypK, ypI, trivial⟩ yuq⟩
abbrev wW : Type := ykJ
def YT (k0 : Int → Option R) (again : wW → Option R) (t3 : wW) : Option R :=
 bif (decide (t3.2.2 < (List.length t3.1 : Int))) then if (0 : Int) ≤ t3.2.2 then if t3.2.2 < (List.length t3.1 : Int) then bif (yj t3.1 t3.2.2).2.1 then again (t3.1, (Go.IntKind.wrap .i64 (t3.2.1 + (1 : Int))), (Go.IntKind.wrap .i64 (t3.2.2 + (1 : Int)))) else again (t3.1, t3.2.1, (Go.IntKind.wrap .i64 (t3.2.2 + (1 : Int)))) else none else none else k0 t3.2.1
def vG k0 := zE (@YT R k0) zW
def ZZ (x : List y9) : Option Int :=
 vG (fun x1 => some x1) (x, (0 : Int), (0 : Int))
def yiI : List QF := []
def y5R (t : ykJ) : St := ⟨yN t.1 :: dd 2 (vI t.2.1 :: vI t.2.2 :: dd 14 []), []⟩
def ygN : Gk wW := fun κ => YT (fun t => κ (some 0) ⟨dd 3 (vI t :: dd 15 []), []⟩)
def yiJ : Lp := lpC 3 (unG ykK y5R) @ygN lpN
theorem ypL : LF yiI yiJ 147 3 Tryz.f147 0 y5R @ygN fun t => t := fun R κ again t => by kernel_rfl
theorem ypM : LK yiI yiJ 147 Tryz.f147 0 := lkN (u := (unG ykK y5R)) (yr fun t => by kernel_rfl) ypL
theorem yur : EV yiI yiJ 147 Tryz.f147 yni [(.sl 113 ye)] [(.int .i64)] ZZ := fun x => by kernel_rfl
def yAh : QF := ⟨147, ZZ, okN (n := 1) Tryz.func147 ⟨ypM, trivial⟩ yur⟩
def Jl (x : ykJ) : Option yxH :=
 Option.bind (yz (x.2.1, (0 : Int), (Go.IntKind.wrap .i64 ((List.length x.1 : Int) - (1 : Int))))) fun r1 => Option.bind (bif (!r1) then some true else if (0 : Int) ≤ x.2.1 then if x.2.1 < (List.length x.1 : Int) then some (!((yj x.1 x.2.1).2.1)) else none else none) fun u2 => Option.bind (bif u2 then some true else if (0 : Int) ≤ x.2.1 then if x.2.1 < (List.length x.1 : Int) then some ((yj x.1 x.2.1).1 != x.2.2) else none else none) fun u3 => bif u3 then some ((0 : Int), false) else if (0 : Int) ≤ x.2.1 then if x.2.1 < (List.length x.1 : Int) then some ((yj x.1 x.2.1).2.2, true) else none else none
theorem yus : EV [q96] lpN 285 Tryz.f285 ynj ykK yxI Jl := fun x => by kernel_rfl
def yAi : QF := ⟨285, Jl, okN (n := 0) Tryz.func285 trivial yus⟩
abbrev WW : Type := ysR
def Zk (k0 : yzE → Option R) (k1 : yi2 → Option R) (again : WW → Option R) (t14 : WW) : Option R :=
 bif (decide (t14.2.2.1 < t14.2.1)) then if (0 : Int) ≤ t14.2.2.1 then if t14.2.2.1 < (List.length t14.2.2.2.2.2.2.2.2.2 : Int) then Option.bind (bif ((y8 t14.2.2.2.2.2.2.2.2.2 t14.2.2.1).2.2.1 == (1 : Int)) then if (0 : Int) ≤ t14.2.2.1 then if t14.2.2.1 < (List.length t14.2.2.2.2.2.2.2.2.2 : Int) then if (0 : Int) ≤ t14.2.1 then if t14.2.1 < (List.length t14.2.2.2.2.2.2.2.2.2 : Int) then some ((y8 t14.2.2.2.2.2.2.2.2.2 t14.2.2.1).2.2.2.1 == (y8 t14.2.2.2.2.2.2.2.2.2 t14.2.1).2.2.2.1) else none else none else none else none else some false) fun u4 => bif u4 then k0 (false, t14.1, t14.2.1, t14.2.2.2) else again (t14.1, t14.2.1, (Go.IntKind.wrap .i64 (t14.2.2.1 + (1 : Int))), t14.2.2.2.1, t14.2.2.2.2.1, t14.2.2.2.2.2.1, t14.2.2.2.2.2.2.1, t14.2.2.2.2.2.2.2.1, t14.2.2.2.2.2.2.2.2.1, t14.2.2.2.2.2.2.2.2.2) else none else none else k1 (t14.1, t14.2.1, t14.2.2.2)
def WX k0 k1 := zE (@Zk R k0 k1) zW
abbrev K6 : Type := yi2
def j6 (k0 : ysP → Option R) (k1 : ybB → Option R) (again : K6 → Option R) (t4 : K6) : Option R :=
 bif (decide (t4.2.1 < (List.length t4.2.2.2.2.2.2.2.2 : Int))) then if (0 : Int) ≤ t4.2.1 then if t4.2.1 < (List.length t4.2.2.2.2.2.2.2.2 : Int) then Option.bind (zD (t4.2.2.2.2.1, (y8 t4.2.2.2.2.2.2.2.2 t4.2.1).2.1)) fun r2 => bif (decide (r2 < (0 : Int))) then k0 (false, t4.1, t4.2.2.1, t4.2.2.2.1, t4.2.2.2.2.1, t4.2.2.2.2.2.1, t4.2.2.2.2.2.2.1, t4.2.2.2.2.2.2.2.1) else if (0 : Int) ≤ t4.2.1 then if t4.2.1 < (List.length t4.2.2.2.2.2.2.2.2 : Int) then bif ((y8 t4.2.2.2.2.2.2.2.2 t4.2.1).2.2.1 != (1 : Int)) then again (t4.1, (Go.IntKind.wrap .i64 (t4.2.1 + (1 : Int))), t4.2.2.1, t4.2.2.2.1, t4.2.2.2.2.1, t4.2.2.2.2.2.1, t4.2.2.2.2.2.2.1, t4.2.2.2.2.2.2.2.1, t4.2.2.2.2.2.2.2.2) else if (0 : Int) ≤ t4.2.1 then if t4.2.1 < (List.length t4.2.2.2.2.2.2.2.2 : Int) then if (0 : Int) ≤ t4.2.1 then if t4.2.1 < (List.length t4.2.2.2.2.2.2.2.2 : Int) then Option.bind (Jl (t4.2.2.2.2.2.1, (y8 t4.2.2.2.2.2.2.2.2 t4.2.1).2.2.2.1, (y8 t4.2.2.2.2.2.2.2.2 t4.2.1).2.2.2.2)) fun r3 => bif (!r3.2) then k0 (false, (Go.IntKind.wrap .i64 (t4.1 + (1 : Int))), t4.2.2.1, t4.2.2.2.1, t4.2.2.2.2.1, t4.2.2.2.2.2.1, t4.2.2.2.2.2.2.1, t4.2.2.2.2.2.2.2.1) else WX (fun x5 => k0 (x5.1, x5.2.1, x5.2.2.2.1, x5.2.2.2.2.1, x5.2.2.2.2.2.1, x5.2.2.2.2.2.2.1, x5.2.2.2.2.2.2.2.1, x5.2.2.2.2.2.2.2.2.1)) (fun x6 => again (x6.1, (Go.IntKind.wrap .i64 (x6.2.1 + (1 : Int))), x6.2.2.1, x6.2.2.2.1, x6.2.2.2.2.1, x6.2.2.2.2.2.1, x6.2.2.2.2.2.2.1, x6.2.2.2.2.2.2.2.1, x6.2.2.2.2.2.2.2.2)) ((Go.IntKind.wrap .i64 (t4.1 + (1 : Int))), t4.2.1, (0 : Int), t4.2.2.1, t4.2.2.2.1, t4.2.2.2.2.1, t4.2.2.2.2.2.1, t4.2.2.2.2.2.2.1, t4.2.2.2.2.2.2.2.1, t4.2.2.2.2.2.2.2.2) else none else none else none else none else none else none else none else none else k1 (t4.1, t4.2.2.1, t4.2.2.2.1, t4.2.2.2.2.1, t4.2.2.2.2.2.1, t4.2.2.2.2.2.2.1, t4.2.2.2.2.2.2.2.1)
def qj k0 k1 := zE (@j6 R k0 k1) zW
def JM (x : Qz9) : Option Bool :=
 Option.bind (yG (x.1, x.2.1)) fun r1 => qj (fun x7 => some x7.1) (fun x8 => Option.bind (ZZ x8.2.2.2.2.1) fun r9 => some (x8.1 == r9)) ((0 : Int), (0 : Int), x.1, x.2.1, x.2.2.1, x.2.2.2.1, x.2.2.2.2.1, x.2.2.2.2.2, r1)
def ycU : List QF := [yin, yAh, ykP, yAi]
def y3k (t : ysR) : St := ⟨.dead :: .box 1 0 :: .dead :: .own 10000000 :: vI t.1 :: vI t.2.1 :: dd 2 (vI t.2.2.1 :: dd 73 []), [(1, .box [z7 t.2.2.2.1, yu t.2.2.2.2.1, zk t.2.2.2.2.2.1, yN t.2.2.2.2.2.2.1, Y3 t.2.2.2.2.2.2.2.1, vI t.2.2.2.2.2.2.2.2.1]), (10000000, .root true 64 yk t.2.2.2.2.2.2.2.2.2)]⟩
def ycV : Gk WW := fun κ => Zk (fun t => κ none ⟨.dead :: .box 1 0 :: vB t.1 :: .own 10000000 :: vI t.2.1 :: vI t.2.2.1 :: dd 76 [], [(1, .box [z7 t.2.2.2.1, yu t.2.2.2.2.1, zk t.2.2.2.2.2.1, yN t.2.2.2.2.2.2.1, Y3 t.2.2.2.2.2.2.2.1, vI t.2.2.2.2.2.2.2.2.1]), (10000000, .root true 64 yk t.2.2.2.2.2.2.2.2.2)]⟩) (fun t => κ (some 2) ⟨.dead :: .box 1 0 :: .dead :: .own 10000000 :: vI t.1 :: vI t.2.1 :: dd 76 [], [(1, .box [z7 t.2.2.1, yu t.2.2.2.1, zk t.2.2.2.2.1, yN t.2.2.2.2.2.1, Y3 t.2.2.2.2.2.2.1, vI t.2.2.2.2.2.2.2.1]), (10000000, .root true 64 yk t.2.2.2.2.2.2.2.2)]⟩)
def y5S (t : yi2) : St := ⟨.dead :: .box 1 0 :: .dead :: .own 10000000 :: vI t.1 :: vI t.2.1 :: dd 76 [], [(1, .box [z7 t.2.2.1, yu t.2.2.2.1, zk t.2.2.2.2.1, yN t.2.2.2.2.2.1, Y3 t.2.2.2.2.2.2.1, vI t.2.2.2.2.2.2.2.1]), (10000000, .root true 64 yk t.2.2.2.2.2.2.2.2)]⟩
def ygO : Gk K6 := fun κ => j6 (fun t => κ none ⟨.dead :: .box 1 0 :: vB t.1 :: .dead :: vI t.2.1 :: dd 77 [], [(1, .box [z7 t.2.2.1, yu t.2.2.2.1, zk t.2.2.2.2.1, yN t.2.2.2.2.2.1, Y3 t.2.2.2.2.2.2.1, vI t.2.2.2.2.2.2.2])]⟩) (fun t => κ (some 0) ⟨.dead :: .box 1 0 :: dd 2 (vI t.1 :: dd 77 []), [(1, .box [z7 t.2.1, yu t.2.2.1, zk t.2.2.2.1, yN t.2.2.2.2.1, Y3 t.2.2.2.2.2.1, vI t.2.2.2.2.2.2])]⟩)
def ycW : Lp := lpC 4 (unG ykL y5S) @ygO (lpC 14 (unG yxJ y3k) @ycV lpN)
theorem yiK : LF ycU ycW 216 14 Tryz.f216 1 y3k @ycV fun t => t := fun R κ again t => by kernel_rfl
theorem yiL : LK ycU ycW 216 Tryz.f216 1 := lkN (u := (unG yxJ y3k)) (yr fun t => by kernel_rfl) yiK
theorem ypN : LF ycU ycW 216 4 Tryz.f216 0 y5S @ygO fun t => t := fun R κ again t => by kernel_rfl
theorem ypO : LK ycU ycW 216 Tryz.f216 0 := lkN (u := (unG ykL y5S)) (yr fun t => by kernel_rfl) ypN
theorem yut : EV ycU ycW 216 Tryz.f216 ynk qz9 [.bool] JM := fun x => by kernel_rfl
def yAj : QF := ⟨216, JM, okN (n := 2) Tryz.func216 ⟨ypO, yiL, trivial⟩ yut⟩
abbrev KM : Type := ybB
def jM (k0 : yi1 → Option R) (k1 : Qz9 → Option R) (again : KM → Option R) (t2 : KM) : Option R :=
 bif (decide (t2.1 < (List.length t2.2.2.2.1 : Int))) then if (0 : Int) ≤ t2.1 then if t2.1 < (List.length t2.2.2.2.1 : Int) then bif (decide ((yK t2.2.2.2.1 t2.1).1 ≥ t2.2.2.2.2.2.2)) then k0 (false, t2.2) else again ((Go.IntKind.wrap .i64 (t2.1 + (1 : Int))), t2.2.1, t2.2.2.1, t2.2.2.2.1, t2.2.2.2.2.1, t2.2.2.2.2.2.1, t2.2.2.2.2.2.2) else none else none else k1 t2.2
def qV k0 k1 := zE (@jM R k0 k1) zW
def yE (x : Qz9) : Option Bool :=
 qV (fun x1 => some x1.1) (fun x2 => Option.bind (Y9 (x2.1, x2.2.1)) fun r3 => Option.bind (bif r3 then Option.bind (YS x2.2.2.1) fun r5 => some r5 else some false) fun u4 => Option.bind (bif u4 then Option.bind (Zb x2.2.2.2.1) fun r7 => some r7 else some false) fun u6 => Option.bind (bif u6 then Option.bind (yz (x2.2.2.2.2.2, (1 : Int), (61 : Int))) fun r9 => some r9 else some false) fun u8 => Option.bind (bif u8 then Option.bind (JL x2) fun r11 => some r11 else some false) fun u10 => Option.bind (bif u10 then Option.bind (JM x2) fun r13 => some r13 else some false) fun u12 => some u12) ((0 : Int), x.1, x.2.1, x.2.2.1, x.2.2.2.1, x.2.2.2.2.1, x.2.2.2.2.2)
def yuu : List QF := [q96, yz9, yuj, yum, yAg, yAj]
def y9l (t : ybB) : St := ⟨.dead :: .box 1 0 :: .dead :: vI t.1 :: dd 42 [], [(1, .box [z7 t.2.1, yu t.2.2.1, zk t.2.2.2.1, yN t.2.2.2.2.1, Y3 t.2.2.2.2.2.1, vI t.2.2.2.2.2.2])]⟩
def ypP : Gk KM := fun κ => jM (fun t => κ none ⟨.dead :: .box 1 0 :: vB t.1 :: dd 43 [], [(1, .box [z7 t.2.1, yu t.2.2.1, zk t.2.2.2.1, yN t.2.2.2.2.1, Y3 t.2.2.2.2.2.1, vI t.2.2.2.2.2.2])]⟩) (fun t => κ (some 0) ⟨.dead :: .box 1 0 :: dd 44 [], [(1, .box [z7 t.1, yu t.2.1, zk t.2.2.1, yN t.2.2.2.1, Y3 t.2.2.2.2.1, vI t.2.2.2.2.2])]⟩)
def yuv : Lp := lpC 2 (unG ygs y9l) @ypP lpN
theorem yuw : LF yuu yuv 95 2 Tryz.f95 0 y9l @ypP fun t => t := fun R κ again t => by kernel_rfl
theorem yux : LK yuu yuv 95 Tryz.f95 0 := lkN (u := (unG ygs y9l)) (yr fun t => by kernel_rfl) yuw
theorem yAk : EV yuu yuv 95 Tryz.f95 yys qz9 [.bool] yE := fun x => by kernel_rfl
def q95 : QF := ⟨95, yE, okN (n := 1) Tryz.func95 ⟨yux, trivial⟩ yAk⟩
def Zc (x : ysf) : Option Int :=
 Option.bind (yE (x.1, x.2.1, x.2.2.1, x.2.2.2.1, x.2.2.2.2.1, x.2.2.2.2.2.1)) fun r1 => Option.bind (bif (!r1) then some true else Option.bind (Ya x.2.2.2.2.2.2) fun r3 => some (!r3)) fun u2 => bif u2 then some (1 : Int) else some (0 : Int)
theorem yuy : EV [q95, ysn] lpN 173 Tryz.f173 ynl ysg [(.int .i64)] Zc := fun x => by kernel_rfl
def yuz : QF := ⟨173, Zc, okN (n := 0) Tryz.func173 trivial yuy⟩
abbrev vV : Type := yxK
def JN (k0 : Int → Option R) (k1 : Unit → Option R) (again : vV → Option R) (t2 : vV) : Option R :=
 bif (decide (t2.2.1 < (List.length t2.2.2.2.2.2.2.1 : Int))) then if (0 : Int) ≤ t2.2.1 then if t2.2.1 < (List.length t2.2.2.2.2.2.2.1 : Int) then bif ((ByteArray.toList ((yq t2.2.2.2.2.2.2.1 t2.2.1).1)) == (ByteArray.toList t2.1)) then k0 t2.2.1 else again (t2.1, (Go.IntKind.wrap .i64 (t2.2.1 + (1 : Int))), t2.2.2.1, t2.2.2.2.1, t2.2.2.2.2.1, t2.2.2.2.2.2.1, t2.2.2.2.2.2.2.1, t2.2.2.2.2.2.2.2) else none else none else k1 ()
def QY k0 k1 := zE (@JN R k0 k1) zW
def zj (x : ysf) : Option Int :=
 QY (fun x1 => some x1) (fun x2 => some (-1 : Int)) (x.2.2.2.2.2.2, (0 : Int), x.1, x.2.1, x.2.2.1, x.2.2.2.1, x.2.2.2.2.1, x.2.2.2.2.2.1)
def yiM : List QF := []
def y5T (t : yxK) : St := ⟨.dead :: vS t.1 :: .box 2 0 :: dd 2 (vI t.2.1 :: dd 16 []), [(2, .box [z7 t.2.2.1, yu t.2.2.2.1, zk t.2.2.2.2.1, yN t.2.2.2.2.2.1, Y3 t.2.2.2.2.2.2.1, vI t.2.2.2.2.2.2.2])]⟩
def ygP : Gk vV := fun κ => JN (fun t => κ none ⟨dd 4 (vI t :: dd 17 []), []⟩) (fun t => κ (some 0) ⟨dd 22 [], []⟩)
def yiN : Lp := lpC 2 (unG yxL y5T) @ygP lpN
theorem ypQ : LF yiM yiN 174 2 Tryz.f174 0 y5T @ygP fun t => t := fun R κ again t => by kernel_rfl
theorem ypR : LK yiM yiN 174 Tryz.f174 0 := lkN (u := (unG yxL y5T)) (yr fun t => by kernel_rfl) ypQ
theorem yuA : EV yiM yiN 174 Tryz.f174 ynm ysg [(.int .i64)] zj := fun x => by kernel_rfl
def ygQ : QF := ⟨174, zj, okN (n := 1) Tryz.func174 ⟨ypR, trivial⟩ yuA⟩
abbrev wX : Type := yxM
def wY (k0 : yzF → Option R) (again : wX → Option R) (t4 : wX) : Option R :=
 bif (decide (t4.2.2.2.2.1 < (List.length t4.1 : Int))) then Option.bind (bif (!t4.2.2.2.1) then if (0 : Int) ≤ t4.2.2.2.2.1 then if t4.2.2.2.2.1 < (List.length t4.1 : Int) then some (decide ((yK t4.1 t4.2.2.2.2.1).1 > t4.2.1)) else none else none else some false) fun u2 => bif u2 then if (List.length t4.2.2.2.2.2 + List.length ([(t4.2.1, t4.2.2.1)] : List yd)) * 16 < 140737488355328 then if (0 : Int) ≤ t4.2.2.2.2.1 then if t4.2.2.2.2.1 < (List.length t4.1 : Int) then if (List.length (t4.2.2.2.2.2 ++ ([(t4.2.1, t4.2.2.1)] : List yd)) + List.length ([((yK t4.1 t4.2.2.2.2.1).1, (yK t4.1 t4.2.2.2.2.1).2)] : List yd)) * 16 < 140737488355328 then again (t4.1, t4.2.1, t4.2.2.1, true, (Go.IntKind.wrap .i64 (t4.2.2.2.2.1 + (1 : Int))), ((t4.2.2.2.2.2 ++ ([(t4.2.1, t4.2.2.1)] : List yd)) ++ ([((yK t4.1 t4.2.2.2.2.1).1, (yK t4.1 t4.2.2.2.2.1).2)] : List yd))) else none else none else none else none else if (0 : Int) ≤ t4.2.2.2.2.1 then if t4.2.2.2.2.1 < (List.length t4.1 : Int) then if (List.length t4.2.2.2.2.2 + List.length ([((yK t4.1 t4.2.2.2.2.1).1, (yK t4.1 t4.2.2.2.2.1).2)] : List yd)) * 16 < 140737488355328 then again (t4.1, t4.2.1, t4.2.2.1, t4.2.2.2.1, (Go.IntKind.wrap .i64 (t4.2.2.2.2.1 + (1 : Int))), (t4.2.2.2.2.2 ++ ([((yK t4.1 t4.2.2.2.2.1).1, (yK t4.1 t4.2.2.2.2.1).2)] : List yd))) else none else none else none else k0 (t4.1, t4.2.1, t4.2.2.1, t4.2.2.2.1, t4.2.2.2.2.2)
def qW k0 := zE (@wY R k0) zW
def zT (x : ysN) : Option ysc :=
 Option.bind (zD (x.1, x.2.1)) fun r1 => qW (fun x3 => bif (!x3.2.2.2.1) then if (List.length x3.2.2.2.2 + List.length ([(x3.2.1, x3.2.2.1)] : List yd)) * 16 < 140737488355328 then Option.bind (zD (x3.1, x3.2.1)) fun r4 => Option.bind (bif (decide (r4 ≥ (0 : Int))) then some true else Option.bind (YS (x3.2.2.2.2 ++ ([(x3.2.1, x3.2.2.1)] : List yd))) fun r6 => some (!r6)) fun u5 => bif u5 then if (List.length ([] : List yd) + List.length x3.1) * 16 < 140737488355328 then some ((([] : List yd) ++ x3.1), false) else none else some ((x3.2.2.2.2 ++ ([(x3.2.1, x3.2.2.1)] : List yd)), true) else none else Option.bind (zD (x3.1, x3.2.1)) fun r7 => Option.bind (bif (decide (r7 ≥ (0 : Int))) then some true else Option.bind (YS x3.2.2.2.2) fun r9 => some (!r9)) fun u8 => bif u8 then if (List.length ([] : List yd) + List.length x3.1) * 16 < 140737488355328 then some ((([] : List yd) ++ x3.1), false) else none else some (x3.2.2.2.2, true)) (x.1, x.2.1, x.2.2, (decide (r1 ≥ (0 : Int))), (0 : Int), ([] : List yd))
def yiO : List QF := [yuj, ykP]
def y5U (t : yxM) : St := ⟨zk t.1 :: vI t.2.1 :: vI t.2.2.1 :: dd 5 (.own 10000000 :: vB t.2.2.2.1 :: vI t.2.2.2.2.1 :: dd 56 []), [(10000000, .root true 146 yo t.2.2.2.2.2)]⟩
def ygR : Gk wX := fun κ => wY (fun t => κ (some 0) ⟨zk t.1 :: vI t.2.1 :: vI t.2.2.1 :: dd 5 (.own 10000000 :: vB t.2.2.2.1 :: dd 57 []), [(10000000, .root true 146 yo t.2.2.2.2)]⟩)
def yiP : Lp := lpC 4 (unG yxN y5U) @ygR lpN
theorem ypS : LF yiO yiP 175 4 Tryz.f175 0 y5U @ygR fun t => t := fun R κ again t => by kernel_rfl
theorem ypT : LK yiO yiP 175 Tryz.f175 0 := lkN (u := (unG yxN y5U)) (yr fun t => by kernel_rfl) ypS
theorem yuB : EV yiO yiP 175 Tryz.f175 ynn ysO yxA zT := fun x => by kernel_rfl
def yuC : QF := ⟨175, zT, okN (n := 1) Tryz.func175 ⟨ypT, trivial⟩ yuB⟩
abbrev jw : Type := ysS
def jx (k0 : ysS → Option R) (again : jw → Option R) (t3 : jw) : Option R :=
 Option.bind (bif (decide (t3.1 > (0 : Int))) then if (0 : Int) ≤ (Go.IntKind.wrap .i64 (t3.1 - (1 : Int))) then if (Go.IntKind.wrap .i64 (t3.1 - (1 : Int))) < (List.length t3.2.2.2.2.2 : Int) then some (!(Go.Op.bytesLess (ByteArray.toList ((yq t3.2.2.2.2.2 (Go.IntKind.wrap .i64 (t3.1 - (1 : Int)))).1)) (ByteArray.toList t3.2.1) || (ByteArray.toList ((yq t3.2.2.2.2.2 (Go.IntKind.wrap .i64 (t3.1 - (1 : Int)))).1)) == (ByteArray.toList t3.2.1))) else none else none else some false) fun u1 => bif u1 then if (0 : Int) ≤ (Go.IntKind.wrap .i64 (t3.1 - (1 : Int))) then if (Go.IntKind.wrap .i64 (t3.1 - (1 : Int))) < (List.length t3.2.2.2.2.2 : Int) then if (0 : Int) ≤ t3.1 then if t3.1 < (List.length t3.2.2.2.2.2 : Int) then again ((Go.IntKind.wrap .i64 (t3.1 - (1 : Int))), t3.2.1, t3.2.2.1, t3.2.2.2.1, t3.2.2.2.2.1, (List.set t3.2.2.2.2.2 (Int.toNat t3.1) ((yq t3.2.2.2.2.2 (Go.IntKind.wrap .i64 (t3.1 - (1 : Int)))).1, (yq t3.2.2.2.2.2 (Go.IntKind.wrap .i64 (t3.1 - (1 : Int)))).2.1, (yq t3.2.2.2.2.2 (Go.IntKind.wrap .i64 (t3.1 - (1 : Int)))).2.2.1, (yq t3.2.2.2.2.2 (Go.IntKind.wrap .i64 (t3.1 - (1 : Int)))).2.2.2))) else none else none else none else none else k0 t3
def vH k0 := zE (@jx R k0) zW
def YL (x : ysT) : Option (List ym) :=
 if (List.length ([] : List ym) + List.length x.1) * 40 < 140737488355328 then if (List.length (([] : List ym) ++ x.1) + List.length ([x.2] : List ym)) * 40 < 140737488355328 then vH (fun x2 => if (0 : Int) ≤ x2.1 then if x2.1 < (List.length x2.2.2.2.2.2 : Int) then some (List.set x2.2.2.2.2.2 (Int.toNat x2.1) (x2.2.1, x2.2.2.1, x2.2.2.2.1, x2.2.2.2.2.1)) else none else none) ((Go.IntKind.wrap .i64 (((List.length ((([] : List ym) ++ x.1) ++ ([x.2] : List ym)) : Nat) : Int) - (1 : Int))), x.2.1, x.2.2.1, x.2.2.2.1, x.2.2.2.2, ((([] : List ym) ++ x.1) ++ ([x.2] : List ym))) else none else none
def yiQ : List QF := []
def y5V (t : ysS) : St := ⟨dd 3 (.box 3 0 :: .dead :: .own 10000000 :: vI t.1 :: dd 37 []), [(3, .box [vS t.2.1, vI t.2.2.1, vI t.2.2.2.1, vB t.2.2.2.2.1]), (10000000, .root true 46 yx t.2.2.2.2.2)]⟩
def ygS : Gk jw := fun κ => jx (fun t => κ (some 0) ⟨dd 3 (.box 3 0 :: .dead :: .own 10000000 :: vI t.1 :: dd 37 []), [(3, .box [vS t.2.1, vI t.2.2.1, vI t.2.2.2.1, vB t.2.2.2.2.1]), (10000000, .root true 46 yx t.2.2.2.2.2)]⟩)
def yiR : Lp := lpC 3 (unG yxO y5V) @ygS lpN
theorem ypU : LF yiQ yiR 176 3 Tryz.f176 0 y5V @ygS fun t => t := fun R κ again t => by kernel_rfl
theorem ypV : LK yiQ yiR 176 Tryz.f176 0 := lkN (u := (unG yxO y5V)) (yr fun t => by kernel_rfl) ypU
theorem yuD : EV yiQ yiR 176 Tryz.f176 yno ysU [(.sl 46 yx)] YL := fun x => by kernel_rfl
def yza : QF := ⟨176, YL, okN (n := 1) Tryz.func176 ⟨ypV, trivial⟩ yuD⟩
def yO (x : yzG) : Option y7c :=
 Option.bind (bif (!x.2.2.2.2.2.2.2.2.2.2.2.2) then some true else Option.bind (yE (x.2.2.2.2.2.2.1, x.2.2.2.2.2.2.2.1, x.2.2.2.2.2.2.2.2.1, x.2.2.2.2.2.2.2.2.2.1, x.2.2.2.2.2.2.2.2.2.2.1, x.2.2.2.2.2.2.2.2.2.2.2.1)) fun r2 => some (!r2)) fun u1 => bif u1 then Option.bind (yl (x.1, x.2.1, x.2.2.1, x.2.2.2.1, x.2.2.2.2.1, x.2.2.2.2.2.1)) fun r3 => some (r3.1, r3.2.1, r3.2.2.1, r3.2.2.2.1, r3.2.2.2.2.1, r3.2.2.2.2.2, (6 : Int)) else some (x.2.2.2.2.2.2.1, x.2.2.2.2.2.2.2.1, x.2.2.2.2.2.2.2.2.1, x.2.2.2.2.2.2.2.2.2.1, x.2.2.2.2.2.2.2.2.2.2.1, x.2.2.2.2.2.2.2.2.2.2.2.1, (0 : Int))
theorem yuE : EV [q94, q95] lpN 177 Tryz.f177 ynp yzH y7d yO := fun x => by kernel_rfl
def ykQ : QF := ⟨177, yO, okN (n := 0) Tryz.func177 trivial yuE⟩
def Jm (x : ysh) : Option y7c :=
 Option.bind (Zc (x.1, x.2.1, x.2.2.1, x.2.2.2.1, x.2.2.2.2.1, x.2.2.2.2.2.1, x.2.2.2.2.2.2.1)) fun r1 => bif (r1 != (0 : Int)) then Option.bind (yl (x.1, x.2.1, x.2.2.1, x.2.2.2.1, x.2.2.2.2.1, x.2.2.2.2.2.1)) fun r2 => some (r2.1, r2.2.1, r2.2.2.1, r2.2.2.2.1, r2.2.2.2.2.1, r2.2.2.2.2.2, r1) else Option.bind (zj (x.1, x.2.1, x.2.2.1, x.2.2.2.1, x.2.2.2.2.1, x.2.2.2.2.2.1, x.2.2.2.2.2.2.1)) fun r3 => bif (decide (r3 ≥ (0 : Int))) then Option.bind (yl (x.1, x.2.1, x.2.2.1, x.2.2.2.1, x.2.2.2.2.1, x.2.2.2.2.2.1)) fun r4 => some (r4.1, r4.2.1, r4.2.2.1, r4.2.2.2.1, r4.2.2.2.2.1, r4.2.2.2.2.2, (3 : Int)) else Option.bind (yz (x.2.2.2.2.2.2.2, (1 : Int), (12 : Int))) fun r5 => bif (!r5) then Option.bind (yl (x.1, x.2.1, x.2.2.1, x.2.2.2.1, x.2.2.2.2.1, x.2.2.2.2.2.1)) fun r6 => some (r6.1, r6.2.1, r6.2.2.1, r6.2.2.2.1, r6.2.2.2.2.1, r6.2.2.2.2.2, (4 : Int)) else Option.bind (yl (x.1, x.2.1, x.2.2.1, x.2.2.2.1, x.2.2.2.2.1, x.2.2.2.2.2.1)) fun r7 => Option.bind (zT (x.2.2.1, x.2.2.2.2.2.1, (0 : Int))) fun r8 => Option.bind (YL (x.2.2.2.2.1, x.2.2.2.2.2.2.1, x.2.2.2.2.2.1, x.2.2.2.2.2.2.2, false)) fun r9 => Option.bind (yO (x.1, x.2.1, x.2.2.1, x.2.2.2.1, x.2.2.2.2.1, x.2.2.2.2.2.1, r7.1, r7.2.1, r8.1, r7.2.2.2.1, r9, (Go.IntKind.wrap .i64 (x.2.2.2.2.2.1 + (1 : Int))), r8.2)) fun r10 => some r10
theorem yAl : EV [q94, q96, yuz, ygQ, yuC, yza, ykQ] lpN 59 Tryz.f59 yyt ysi y7d Jm := fun x => by kernel_rfl
def q59 : QF := ⟨59, Jm, okN (n := 0) Tryz.func59 trivial yAl⟩
def WY (x : yzI) : Option y7c :=
 Option.bind (Zc (x.1, x.2.1, x.2.2.1, x.2.2.2.1, x.2.2.2.2.1, x.2.2.2.2.2.1, x.2.2.2.2.2.2.1)) fun r1 => Option.bind (bif (r1 != (0 : Int)) then some true else Option.bind (Ya x.2.2.2.2.2.2.2.1) fun r3 => some (!r3)) fun u2 => bif u2 then Option.bind (yl (x.1, x.2.1, x.2.2.1, x.2.2.2.1, x.2.2.2.2.1, x.2.2.2.2.2.1)) fun r4 => some (r4.1, r4.2.1, r4.2.2.1, r4.2.2.2.1, r4.2.2.2.2.1, r4.2.2.2.2.2, (1 : Int)) else Option.bind (zj (x.1, x.2.1, x.2.2.1, x.2.2.2.1, x.2.2.2.2.1, x.2.2.2.2.2.1, x.2.2.2.2.2.2.1)) fun r5 => bif (decide (r5 < (0 : Int))) then Option.bind (yl (x.1, x.2.1, x.2.2.1, x.2.2.2.1, x.2.2.2.2.1, x.2.2.2.2.2.1)) fun r6 => some (r6.1, r6.2.1, r6.2.2.1, r6.2.2.2.1, r6.2.2.2.2.1, r6.2.2.2.2.2, (2 : Int)) else Option.bind (zj (x.1, x.2.1, x.2.2.1, x.2.2.2.1, x.2.2.2.2.1, x.2.2.2.2.2.1, x.2.2.2.2.2.2.2.1)) fun r7 => bif (decide (r7 ≥ (0 : Int))) then Option.bind (yl (x.1, x.2.1, x.2.2.1, x.2.2.2.1, x.2.2.2.2.1, x.2.2.2.2.2.1)) fun r8 => some (r8.1, r8.2.1, r8.2.2.1, r8.2.2.2.1, r8.2.2.2.2.1, r8.2.2.2.2.2, (3 : Int)) else Option.bind (yl (x.1, x.2.1, x.2.2.1, x.2.2.2.1, x.2.2.2.2.1, x.2.2.2.2.2.1)) fun r9 => Option.bind (zj (x.1, x.2.1, x.2.2.1, x.2.2.2.1, x.2.2.2.2.1, x.2.2.2.2.2.1, x.2.2.2.2.2.2.1)) fun r10 => if (0 : Int) ≤ r10 then if r10 < (List.length x.2.2.2.2.1 : Int) then Option.bind (zT (x.2.2.1, x.2.2.2.2.2.1, (yq x.2.2.2.2.1 r10).2.1)) fun r11 => if (0 : Int) ≤ r10 then if r10 < (List.length x.2.2.2.2.1 : Int) then Option.bind (zT (r11.1, (Go.IntKind.wrap .i64 (x.2.2.2.2.2.1 + (1 : Int))), (yq x.2.2.2.2.1 r10).2.1)) fun r12 => if (0 : Int) ≤ r10 then if r10 < (List.length r9.2.2.2.2.1 : Int) then if (0 : Int) ≤ r10 then if r10 < (List.length x.2.2.2.2.1 : Int) then Option.bind (YL ((List.set r9.2.2.2.2.1 (Int.toNat r10) ((yq r9.2.2.2.2.1 r10).1, x.2.2.2.2.2.1, (yq r9.2.2.2.2.1 r10).2.2)), x.2.2.2.2.2.2.2.1, (Go.IntKind.wrap .i64 (x.2.2.2.2.2.1 + (1 : Int))), (yq x.2.2.2.2.1 r10).2.2.1, x.2.2.2.2.2.2.2.2)) fun r13 => Option.bind (bif r11.2 then some r12.2 else some false) fun u14 => Option.bind (yO (x.1, x.2.1, x.2.2.1, x.2.2.2.1, x.2.2.2.2.1, x.2.2.2.2.2.1, r9.1, r9.2.1, r12.1, r9.2.2.2.1, r13, (Go.IntKind.wrap .i64 (x.2.2.2.2.2.1 + (2 : Int))), u14)) fun r15 => some r15 else none else none else none else none else none else none else none else none
theorem yAm : EV [q94, yuz, ygQ, yuC, yza, ykQ, ysn] lpN 61 Tryz.f61 yyu yzJ y7d WY := fun x => by kernel_rfl
def q61 : QF := ⟨61, WY, okN (n := 0) Tryz.func61 trivial yAm⟩
def Jn (x : ysf) : Option Int :=
 Option.bind (Zc x) fun r1 => Option.bind (bif (r1 == (0 : Int)) then Option.bind (zj x) fun r3 => some (decide (r3 < (0 : Int))) else some false) fun u2 => bif u2 then some (2 : Int) else some r1
theorem yuF : EV [yuz, ygQ] lpN 179 Tryz.f179 ynq ysg [(.int .i64)] Jn := fun x => by kernel_rfl
def yzb : QF := ⟨179, Jn, okN (n := 0) Tryz.func179 trivial yuF⟩
def ZN (x : ysf) : Option y7c :=
 Option.bind (yl (x.1, x.2.1, x.2.2.1, x.2.2.2.1, x.2.2.2.2.1, x.2.2.2.2.2.1)) fun r1 => Option.bind (Jn x) fun r2 => bif (r2 != (0 : Int)) then some (r1.1, r1.2.1, r1.2.2.1, r1.2.2.2.1, r1.2.2.2.2.1, r1.2.2.2.2.2, r2) else Option.bind (zj x) fun r3 => if (0 : Int) ≤ (0 : Int) then if (0 : Int) ≤ r3 then if r3 ≤ (List.length x.2.2.2.2.1 : Int) then if (List.length ([] : List ym) + List.length (List.drop (Int.toNat (0 : Int)) (List.take (Int.toNat r3) x.2.2.2.2.1))) * 40 < 140737488355328 then if (0 : Int) ≤ (Go.IntKind.wrap .i64 (r3 + (1 : Int))) then if (Go.IntKind.wrap .i64 (r3 + (1 : Int))) ≤ (List.length x.2.2.2.2.1 : Int) then if (List.length x.2.2.2.2.1 : Int) ≤ (List.length x.2.2.2.2.1 : Int) then if (List.length (([] : List ym) ++ (List.drop (Int.toNat (0 : Int)) (List.take (Int.toNat r3) x.2.2.2.2.1))) + List.length (List.drop (Int.toNat (Go.IntKind.wrap .i64 (r3 + (1 : Int)))) (List.take (Int.toNat (List.length x.2.2.2.2.1 : Int)) x.2.2.2.2.1))) * 40 < 140737488355328 then Option.bind (yO (x.1, x.2.1, x.2.2.1, x.2.2.2.1, x.2.2.2.2.1, x.2.2.2.2.2.1, r1.1, r1.2.1, r1.2.2.1, r1.2.2.2.1, ((([] : List ym) ++ (List.drop (Int.toNat (0 : Int)) (List.take (Int.toNat r3) x.2.2.2.2.1))) ++ (List.drop (Int.toNat (Go.IntKind.wrap .i64 (r3 + (1 : Int)))) (List.take (Int.toNat (List.length x.2.2.2.2.1 : Int)) x.2.2.2.2.1))), r1.2.2.2.2.2, true)) fun r4 => some r4 else none else none else none else none else none else none else none else none
theorem yAn : EV [q94, ygQ, ykQ, yzb] lpN 64 Tryz.f64 yyv ysg y7d ZN := fun x => by kernel_rfl
def q64 : QF := ⟨64, ZN, okN (n := 0) Tryz.func64 trivial yAn⟩
abbrev Jo : Type := yxP
def zw (k0 : yzK → Option R) (k1 : List y9 → Option R) (again : Jo → Option R) (t3 : Jo) : Option R :=
 Option.bind (bif (decide (t3.2.2.1 < (List.length t3.1 : Int))) then Option.bind (Zb t3.1) fun r3 => some r3 else some false) fun u2 => Option.bind (bif u2 then Option.bind (zm t3.2.1) fun r5 => some r5 else some false) fun u4 => bif u4 then if (0 : Int) ≤ t3.2.2.1 then if t3.2.2.1 < (List.length t3.1 : Int) then bif (!((yj t3.1 t3.2.2.1).2.1)) then if (0 : Int) ≤ t3.2.2.1 then if t3.2.2.1 < (List.length t3.2.2.2 : Int) then if (0 : Int) ≤ t3.2.2.1 then if t3.2.2.1 < ((List.length (List.set t3.2.2.2 (Int.toNat t3.2.2.1) ((yj t3.2.2.2 t3.2.2.1).1, true, (yj t3.2.2.2 t3.2.2.1).2.2)) : Nat) : Int) then k0 (t3.2.2.1, true, (List.set (List.set t3.2.2.2 (Int.toNat t3.2.2.1) ((yj t3.2.2.2 t3.2.2.1).1, true, (yj t3.2.2.2 t3.2.2.1).2.2)) (Int.toNat t3.2.2.1) ((yj (List.set t3.2.2.2 (Int.toNat t3.2.2.1) ((yj t3.2.2.2 t3.2.2.1).1, true, (yj t3.2.2.2 t3.2.2.1).2.2)) t3.2.2.1).1, (yj (List.set t3.2.2.2 (Int.toNat t3.2.2.1) ((yj t3.2.2.2 t3.2.2.1).1, true, (yj t3.2.2.2 t3.2.2.1).2.2)) t3.2.2.1).2.1, t3.2.1))) else none else none else none else none else again (t3.1, t3.2.1, (Go.IntKind.wrap .i64 (t3.2.2.1 + (1 : Int))), t3.2.2.2) else none else none else k1 t3.2.2.2
def WZ k0 k1 := zE (@zw R k0 k1) zW
def zG (x : ygq) : Option yxR :=
 Option.bind (zR x.1) fun r1 => WZ (fun x6 => some (x6.2.2, x6.1, x6.2.1)) (fun x7 => some (x7, (0 : Int), false)) (x.1, x.2, (0 : Int), r1)
def yiS : List QF := [ysm, ytZ, yum]
def y5W (t : yxP) : St := ⟨yN t.1 :: vI t.2.1 :: dd 5 (.own 10000000 :: vI t.2.2.1 :: dd 34 []), [(10000000, .root true 113 ye t.2.2.2)]⟩
def ygT : Gk Jo := fun κ => zw (fun t => κ none ⟨dd 4 (.own 10000000 :: vI t.1 :: vB t.2.1 :: .own 10000000 :: dd 35 []), [(10000000, .root true 113 ye t.2.2)]⟩) (fun t => κ (some 0) ⟨dd 7 (.own 10000000 :: dd 35 []), [(10000000, .root true 113 ye t)]⟩)
def yiT : Lp := lpC 3 (unG yxQ y5W) @ygT lpN
theorem ypW : LF yiS yiT 103 3 Tryz.f103 0 y5W @ygT fun t => t := fun R κ again t => by kernel_rfl
theorem ypX : LK yiS yiT 103 Tryz.f103 0 := lkN (u := (unG yxQ y5W)) (yr fun t => by kernel_rfl) ypW
theorem yuG : EV yiS yiT 103 Tryz.f103 ynr ygr yxS zG := fun x => by kernel_rfl
def yuH : QF := ⟨103, zG, okN (n := 1) Tryz.func103 ⟨ypX, trivial⟩ yuG⟩
def Yz (x : ysh) : Option Int :=
 Option.bind (Jn (x.1, x.2.1, x.2.2.1, x.2.2.2.1, x.2.2.2.2.1, x.2.2.2.2.2.1, x.2.2.2.2.2.2.1)) fun r1 => bif (r1 != (0 : Int)) then some r1 else Option.bind (zj (x.1, x.2.1, x.2.2.1, x.2.2.2.1, x.2.2.2.2.1, x.2.2.2.2.2.1, x.2.2.2.2.2.2.1)) fun r2 => if (0 : Int) ≤ r2 then if r2 < (List.length x.2.2.2.2.1 : Int) then bif (yq x.2.2.2.2.1 r2).2.2.2 then some (5 : Int) else Option.bind (zj (x.1, x.2.1, x.2.2.1, x.2.2.2.1, x.2.2.2.2.1, x.2.2.2.2.2.1, x.2.2.2.2.2.2.1)) fun r3 => if (0 : Int) ≤ r3 then if r3 < (List.length x.2.2.2.2.1 : Int) then Option.bind (yz (x.2.2.2.2.2.2.2, (0 : Int), (Go.IntKind.wrap .i64 ((yq x.2.2.2.2.1 r3).2.2.1 - (1 : Int))))) fun r4 => bif (!r4) then some (4 : Int) else some (0 : Int) else none else none else none else none
theorem yuI : EV [q96, ygQ, yzb] lpN 181 Tryz.f181 yns ysi [(.int .i64)] Yz := fun x => by kernel_rfl
def yuJ : QF := ⟨181, Yz, okN (n := 0) Tryz.func181 trivial yuI⟩
abbrev wg : Type := yxT
def wh (k0 : Int → Option R) (again : wg → Option R) (t3 : wg) : Option R :=
 bif (decide (t3.2.2.2.1 < (List.length t3.2.2.2.2.1 : Int))) then if (0 : Int) ≤ t3.2.2.2.1 then if t3.2.2.2.1 < (List.length t3.2.2.2.2.1 : Int) then Option.bind (Jj (t3.1, t3.2.1)) fun r1 => bif (decide ((zC t3.2.2.2.2.1 t3.2.2.2.1) ≤ r1)) then again (t3.1, t3.2.1, t3.2.2.2.1, (Go.IntKind.wrap .i64 (t3.2.2.2.1 + (1 : Int))), t3.2.2.2.2.1, t3.2.2.2.2.2) else again (t3.1, t3.2.1, t3.2.2.1, (Go.IntKind.wrap .i64 (t3.2.2.2.1 + (1 : Int))), t3.2.2.2.2.1, t3.2.2.2.2.2) else none else none else k0 t3.2.2.1
def qk k0 := zE (@wh R k0) zW
def jl (x : ysV) : Option Int :=
 qk (fun x2 => some x2) (x.2.2.1, x.2.2.2, (-1 : Int), (0 : Int), x.1, x.2.1)
def yiU : List QF := [yz5]
def y5X (t : yxT) : St := ⟨.dead :: vI t.1 :: vI t.2.1 :: .box 3 0 :: dd 3 (vI t.2.2.1 :: vI t.2.2.2.1 :: dd 18 []), [(3, .box [z7 t.2.2.2.2.1, yu t.2.2.2.2.2])]⟩
def ygU : Gk wg := fun κ => wh (fun t => κ (some 0) ⟨dd 7 (vI t :: dd 19 []), []⟩)
def yiV : Lp := lpC 3 (unG yxU y5X) @ygU lpN
theorem ypY : LF yiU yiV 227 3 Tryz.f227 0 y5X @ygU fun t => t := fun R κ again t => by kernel_rfl
theorem ypZ : LK yiU yiV 227 Tryz.f227 0 := lkN (u := (unG yxU y5X)) (yr fun t => by kernel_rfl) ypY
theorem yuK : EV yiU yiV 227 Tryz.f227 ynt ysW [(.int .i64)] jl := fun x => by kernel_rfl
def yzc : QF := ⟨227, jl, okN (n := 1) Tryz.func227 ⟨ypZ, trivial⟩ yuK⟩
def yR (x : List ya) : Option (List yb) :=
 bif ((List.length x : Int) == (0 : Int)) then some ([] : List yb) else if (List.length ([] : List ya) + List.length x) * 40 < 140737488355328 then some ([(([] : List ya) ++ x)] : List yb) else none
theorem yuL : EV [] lpN 234 Tryz.f234 ynu [(.sl 64 yk)] [(.sl 58 yn)] yR := fun x => by kernel_rfl
def yso : QF := ⟨234, yR, okN (n := 0) Tryz.func234 trivial yuL⟩
abbrev vW : Type := yxV
def JO (k0 : ysX → Option R) (k1 : yes → Option R) (again : vW → Option R) (t2 : vW) : Option R :=
 bif (decide (t2.2.2.2.1 < (List.length t2.1 : Int))) then if (0 : Int) ≤ t2.2.2.2.1 then if t2.2.2.2.1 < (List.length t2.1 : Int) then Option.bind (bif ((y8 t2.1 t2.2.2.2.1).1 == t2.2.1) then if (0 : Int) ≤ t2.2.2.2.1 then if t2.2.2.2.1 < (List.length t2.1 : Int) then some ((y8 t2.1 t2.2.2.2.1).2.1 == t2.2.2.1) else none else none else some false) fun u1 => bif u1 then if (0 : Int) ≤ t2.2.2.2.1 then if t2.2.2.2.1 < (List.length t2.1 : Int) then k0 (true, (y8 t2.1 t2.2.2.2.1).1, (y8 t2.1 t2.2.2.2.1).2.1, (y8 t2.1 t2.2.2.2.1).2.2.1, (y8 t2.1 t2.2.2.2.1).2.2.2.1, (y8 t2.1 t2.2.2.2.1).2.2.2.2) else none else none else again (t2.1, t2.2.1, t2.2.2.1, (Go.IntKind.wrap .i64 (t2.2.2.2.1 + (1 : Int))), t2.2.2.2.2.1, t2.2.2.2.2.2.1, t2.2.2.2.2.2.2.1, t2.2.2.2.2.2.2.2.1, t2.2.2.2.2.2.2.2.2) else none else none else k1 t2.2.2.2.2
def QZ k0 k1 := zE (@JO R k0 k1) zW
def wG (x : yxX) : Option yi3 :=
 QZ (fun x2 => some (x2.2.1, x2.2.2.1, x2.2.2.2.1, x2.2.2.2.2.1, x2.2.2.2.2.2, x2.1)) (fun x3 => some ((0 : Int), (0 : Int), (0 : Int), (0 : Int), (0 : Int), false)) (x.1, x.2.1, x.2.2, (0 : Int), (0 : Int), (0 : Int), (0 : Int), (0 : Int), (0 : Int))
def yiW : List QF := []
def y5Y (t : yxV) : St := ⟨VN t.1 :: vI t.2.1 :: vI t.2.2.1 :: dd 3 (.box 6 0 :: .dead :: vI t.2.2.2.1 :: dd 27 []), [(6, .box [vI t.2.2.2.2.1, vI t.2.2.2.2.2.1, vI t.2.2.2.2.2.2.1, vI t.2.2.2.2.2.2.2.1, vI t.2.2.2.2.2.2.2.2])]⟩
def ygV : Gk vW := fun κ => JO (fun t => κ none ⟨dd 6 (.box 6 0 :: vB t.1 :: dd 28 []), [(6, .box [vI t.2.1, vI t.2.2.1, vI t.2.2.2.1, vI t.2.2.2.2.1, vI t.2.2.2.2.2])]⟩) (fun t => κ (some 0) ⟨dd 6 (.box 6 0 :: dd 29 []), [(6, .box [vI t.1, vI t.2.1, vI t.2.2.1, vI t.2.2.2.1, vI t.2.2.2.2])]⟩)
def yiX : Lp := lpC 2 (unG yxW y5Y) @ygV lpN
theorem yq0 : LF yiW yiX 305 2 Tryz.f305 0 y5Y @ygV fun t => t := fun R κ again t => by kernel_rfl
theorem yq1 : LK yiW yiX 305 Tryz.f305 0 := lkN (u := (unG yxW y5Y)) (yr fun t => by kernel_rfl) yq0
theorem yuM : EV yiW yiX 305 Tryz.f305 ynv yxY yi4 wG := fun x => by kernel_rfl
def yzd : QF := ⟨305, wG, okN (n := 1) Tryz.func305 ⟨yq1, trivial⟩ yuM⟩
def Yu (x : ysY) : Option yxZ :=
 Option.bind (ze x.1) fun r1 => bif (decide ((Go.IntKind.wrap .i64 ((List.length r1 : Int) - (1 : Int))) ≥ (0 : Int))) then if (0 : Int) ≤ (Go.IntKind.wrap .i64 ((List.length r1 : Int) - (1 : Int))) then if (Go.IntKind.wrap .i64 ((List.length r1 : Int) - (1 : Int))) < (List.length r1 : Int) then Option.bind (wG ((yp r1 (Go.IntKind.wrap .i64 ((List.length r1 : Int) - (1 : Int)))), x.2.1, x.2.2.1)) fun r2 => Option.bind (bif (decide ((Go.IntKind.wrap .i64 ((List.length r1 : Int) - (1 : Int))) ≥ (0 : Int))) then if (0 : Int) ≤ (Go.IntKind.wrap .i64 ((List.length r1 : Int) - (1 : Int))) then if (Go.IntKind.wrap .i64 ((List.length r1 : Int) - (1 : Int))) < (List.length r1 : Int) then Option.bind (bif (decide (((List.length (yp r1 (Go.IntKind.wrap .i64 ((List.length r1 : Int) - (1 : Int)))) : Nat) : Int) < (4 : Int))) then some true else some r2.2.2.2.2.2) fun u4 => some u4 else none else none else some false) fun u3 => bif u3 then if (0 : Int) ≤ (Go.IntKind.wrap .i64 ((List.length r1 : Int) - (1 : Int))) then if (Go.IntKind.wrap .i64 ((List.length r1 : Int) - (1 : Int))) < (List.length r1 : Int) then Option.bind (zp ((yp r1 (Go.IntKind.wrap .i64 ((List.length r1 : Int) - (1 : Int)))), x.2.1, x.2.2.1, x.2.2.2.1, x.2.2.2.2.1, x.2.2.2.2.2)) fun r5 => if (0 : Int) ≤ (Go.IntKind.wrap .i64 ((List.length r1 : Int) - (1 : Int))) then if (Go.IntKind.wrap .i64 ((List.length r1 : Int) - (1 : Int))) < (List.length r1 : Int) then Option.bind (zl (List.set r1 (Int.toNat (Go.IntKind.wrap .i64 ((List.length r1 : Int) - (1 : Int)))) r5)) fun r6 => bif r6 then some ((List.set r1 (Int.toNat (Go.IntKind.wrap .i64 ((List.length r1 : Int) - (1 : Int)))) r5), true) else Option.bind (yA x.1) fun r7 => Option.bind (zp (r7, x.2)) fun r8 => Option.bind (zS r8) fun r9 => bif (decide ((List.length r9 : Int) > (8 : Int))) then Option.bind (ze x.1) fun r10 => some (r10, false) else Option.bind (yR r9) fun r11 => Option.bind (zl r11) fun r12 => bif (!r12) then Option.bind (ze x.1) fun r13 => some (r13, false) else Option.bind (yR r9) fun r14 => some (r14, true) else none else none else none else none else if (List.length r1 + List.length ([([x.2] : List ya)] : List yb)) * 24 < 140737488355328 then Option.bind (zl (r1 ++ ([([x.2] : List ya)] : List yb))) fun r15 => bif r15 then some ((r1 ++ ([([x.2] : List ya)] : List yb)), true) else Option.bind (yA x.1) fun r16 => Option.bind (zp (r16, x.2)) fun r17 => Option.bind (zS r17) fun r18 => bif (decide ((List.length r18 : Int) > (8 : Int))) then Option.bind (ze x.1) fun r19 => some (r19, false) else Option.bind (yR r18) fun r20 => Option.bind (zl r20) fun r21 => bif (!r21) then Option.bind (ze x.1) fun r22 => some (r22, false) else Option.bind (yR r18) fun r23 => some (r23, true) else none else none else none else Option.bind (bif (decide ((Go.IntKind.wrap .i64 ((List.length r1 : Int) - (1 : Int))) ≥ (0 : Int))) then if (0 : Int) ≤ (Go.IntKind.wrap .i64 ((List.length r1 : Int) - (1 : Int))) then if (Go.IntKind.wrap .i64 ((List.length r1 : Int) - (1 : Int))) < (List.length r1 : Int) then Option.bind (bif (decide (((List.length (yp r1 (Go.IntKind.wrap .i64 ((List.length r1 : Int) - (1 : Int)))) : Nat) : Int) < (4 : Int))) then some true else some false) fun u25 => some u25 else none else none else some false) fun u24 => bif u24 then if (0 : Int) ≤ (Go.IntKind.wrap .i64 ((List.length r1 : Int) - (1 : Int))) then if (Go.IntKind.wrap .i64 ((List.length r1 : Int) - (1 : Int))) < (List.length r1 : Int) then Option.bind (zp ((yp r1 (Go.IntKind.wrap .i64 ((List.length r1 : Int) - (1 : Int)))), x.2.1, x.2.2.1, x.2.2.2.1, x.2.2.2.2.1, x.2.2.2.2.2)) fun r26 => if (0 : Int) ≤ (Go.IntKind.wrap .i64 ((List.length r1 : Int) - (1 : Int))) then if (Go.IntKind.wrap .i64 ((List.length r1 : Int) - (1 : Int))) < (List.length r1 : Int) then Option.bind (zl (List.set r1 (Int.toNat (Go.IntKind.wrap .i64 ((List.length r1 : Int) - (1 : Int)))) r26)) fun r27 => bif r27 then some ((List.set r1 (Int.toNat (Go.IntKind.wrap .i64 ((List.length r1 : Int) - (1 : Int)))) r26), true) else Option.bind (yA x.1) fun r28 => Option.bind (zp (r28, x.2)) fun r29 => Option.bind (zS r29) fun r30 => bif (decide ((List.length r30 : Int) > (8 : Int))) then Option.bind (ze x.1) fun r31 => some (r31, false) else Option.bind (yR r30) fun r32 => Option.bind (zl r32) fun r33 => bif (!r33) then Option.bind (ze x.1) fun r34 => some (r34, false) else Option.bind (yR r30) fun r35 => some (r35, true) else none else none else none else none else if (List.length r1 + List.length ([([x.2] : List ya)] : List yb)) * 24 < 140737488355328 then Option.bind (zl (r1 ++ ([([x.2] : List ya)] : List yb))) fun r36 => bif r36 then some ((r1 ++ ([([x.2] : List ya)] : List yb)), true) else Option.bind (yA x.1) fun r37 => Option.bind (zp (r37, x.2)) fun r38 => Option.bind (zS r38) fun r39 => bif (decide ((List.length r39 : Int) > (8 : Int))) then Option.bind (ze x.1) fun r40 => some (r40, false) else Option.bind (yR r39) fun r41 => Option.bind (zl r41) fun r42 => bif (!r42) then Option.bind (ze x.1) fun r43 => some (r43, false) else Option.bind (yR r39) fun r44 => some (r44, true) else none
theorem yuN : EV [yu1, ysl, yik, yso, yz3, yzd, yz8] lpN 228 Tryz.f228 ynw ysZ yy0 Yu := fun x => by kernel_rfl
def yze : QF := ⟨228, Yu, okN (n := 0) Tryz.func228 trivial yuN⟩
def jN (x : yzL) : Option Qz8 :=
 if (0 : Int) ≤ (0 : Int) then if (0 : Int) ≤ x.2.2.1 then if x.2.2.1 ≤ (List.length x.1 : Int) then if (List.length ([] : List yf) + List.length (List.drop (Int.toNat (0 : Int)) (List.take (Int.toNat x.2.2.1) x.1))) * 8 < 140737488355328 then if (List.length (([] : List yf) ++ (List.drop (Int.toNat (0 : Int)) (List.take (Int.toNat x.2.2.1) x.1))) + List.length x.2.2.2.1) * 8 < 140737488355328 then if (0 : Int) ≤ (Go.IntKind.wrap .i64 (x.2.2.1 + (1 : Int))) then if (Go.IntKind.wrap .i64 (x.2.2.1 + (1 : Int))) ≤ (List.length x.1 : Int) then if (List.length x.1 : Int) ≤ (List.length x.1 : Int) then if (List.length ((([] : List yf) ++ (List.drop (Int.toNat (0 : Int)) (List.take (Int.toNat x.2.2.1) x.1))) ++ x.2.2.2.1) + List.length (List.drop (Int.toNat (Go.IntKind.wrap .i64 (x.2.2.1 + (1 : Int)))) (List.take (Int.toNat (List.length x.1 : Int)) x.1))) * 8 < 140737488355328 then if (0 : Int) ≤ (0 : Int) then if (0 : Int) ≤ x.2.2.1 then if x.2.2.1 ≤ (List.length x.2.1 : Int) then if (List.length ([] : List y0) + List.length (List.drop (Int.toNat (0 : Int)) (List.take (Int.toNat x.2.2.1) x.2.1))) * 24 < 140737488355328 then if (List.length (([] : List y0) ++ (List.drop (Int.toNat (0 : Int)) (List.take (Int.toNat x.2.2.1) x.2.1))) + List.length x.2.2.2.2) * 24 < 140737488355328 then if (0 : Int) ≤ (Go.IntKind.wrap .i64 (x.2.2.1 + (1 : Int))) then if (Go.IntKind.wrap .i64 (x.2.2.1 + (1 : Int))) ≤ (List.length x.2.1 : Int) then if (List.length x.2.1 : Int) ≤ (List.length x.2.1 : Int) then if (List.length ((([] : List y0) ++ (List.drop (Int.toNat (0 : Int)) (List.take (Int.toNat x.2.2.1) x.2.1))) ++ x.2.2.2.2) + List.length (List.drop (Int.toNat (Go.IntKind.wrap .i64 (x.2.2.1 + (1 : Int)))) (List.take (Int.toNat (List.length x.2.1 : Int)) x.2.1))) * 24 < 140737488355328 then some ((((([] : List yf) ++ (List.drop (Int.toNat (0 : Int)) (List.take (Int.toNat x.2.2.1) x.1))) ++ x.2.2.2.1) ++ (List.drop (Int.toNat (Go.IntKind.wrap .i64 (x.2.2.1 + (1 : Int)))) (List.take (Int.toNat (List.length x.1 : Int)) x.1))), (((([] : List y0) ++ (List.drop (Int.toNat (0 : Int)) (List.take (Int.toNat x.2.2.1) x.2.1))) ++ x.2.2.2.2) ++ (List.drop (Int.toNat (Go.IntKind.wrap .i64 (x.2.2.1 + (1 : Int)))) (List.take (Int.toNat (List.length x.2.1 : Int)) x.2.1)))) else none else none else none else none else none else none else none else none else none else none else none else none else none else none else none else none else none else none
theorem yuO : EV [] lpN 229 Tryz.f229 ynx yzM qz8 jN := fun x => by kernel_rfl
def yAo : QF := ⟨229, jN, okN (n := 0) Tryz.func229 trivial yuO⟩
abbrev KN : Type := y8L
def wZ (k0 : Int → Option R) (k1 : Unit → Option R) (again : KN → Option R) (t2 : KN) : Option R :=
 bif (decide ((Go.IntKind.wrap .i64 (t2.1 + (1 : Int))) < (List.length t2.2.2 : Int))) then if (0 : Int) ≤ t2.1 then if t2.1 < (List.length t2.2.2 : Int) then Option.bind (yA (yg t2.2.2 t2.1)) fun r1 => if (0 : Int) ≤ (Go.IntKind.wrap .i64 (t2.1 + (1 : Int))) then if (Go.IntKind.wrap .i64 (t2.1 + (1 : Int))) < (List.length t2.2.2 : Int) then Option.bind (yA (yg t2.2.2 (Go.IntKind.wrap .i64 (t2.1 + (1 : Int))))) fun r2 => bif (decide ((Go.IntKind.wrap .i64 ((List.length r1 : Int) + (List.length r2 : Int))) ≤ (6 : Int))) then k0 t2.1 else again ((Go.IntKind.wrap .i64 (t2.1 + (1 : Int))), t2.2.1, t2.2.2) else none else none else none else none else k1 ()
def qX k0 k1 := zE (@wZ R k0 k1) zW
def Jp (x : Qz8) : Option Int :=
 qX (fun x3 => some x3) (fun x4 => some (-1 : Int)) ((0 : Int), x.1, x.2)
def yiY : List QF := [yik]
def y5Z (t : y8L) : St := ⟨.dead :: .box 1 0 :: .dead :: vI t.1 :: dd 26 [], [(1, .box [z7 t.2.1, yu t.2.2])]⟩
def ygW : Gk KN := fun κ => wZ (fun t => κ none ⟨dd 2 (vI t :: dd 27 []), []⟩) (fun t => κ (some 0) ⟨dd 30 [], []⟩)
def yiZ : Lp := lpC 2 (unG ydN y5Z) @ygW lpN
theorem yq2 : LF yiY yiZ 310 2 Tryz.f310 0 y5Z @ygW fun t => t := fun R κ again t => by kernel_rfl
theorem yq3 : LK yiY yiZ 310 Tryz.f310 0 := lkN (u := (unG ydN y5Z)) (yr fun t => by kernel_rfl) yq2
theorem yuP : EV yiY yiZ 310 Tryz.f310 yny qz8 [(.int .i64)] Jp := fun x => by kernel_rfl
def yAp : QF := ⟨310, Jp, okN (n := 1) Tryz.func310 ⟨yq3, trivial⟩ yuP⟩
abbrev KO : Type := y8L
def W0 (k0 : Qz8 → Option R) (again : KO → Option R) (t2 : KO) : Option R :=
 bif (decide (t2.1 ≥ (0 : Int))) then if (0 : Int) ≤ t2.1 then if t2.1 < (List.length t2.2.2 : Int) then Option.bind (yA (yg t2.2.2 t2.1)) fun r2 => if (0 : Int) ≤ (Go.IntKind.wrap .i64 (t2.1 + (1 : Int))) then if (Go.IntKind.wrap .i64 (t2.1 + (1 : Int))) < (List.length t2.2.2 : Int) then Option.bind (yA (yg t2.2.2 (Go.IntKind.wrap .i64 (t2.1 + (1 : Int))))) fun r3 => if (List.length r2 + List.length r3) * 40 < 140737488355328 then if (0 : Int) ≤ (0 : Int) then if (0 : Int) ≤ (Go.IntKind.wrap .i64 (t2.1 + (1 : Int))) then if (Go.IntKind.wrap .i64 (t2.1 + (1 : Int))) ≤ (List.length t2.2.1 : Int) then if (List.length ([] : List yf) + List.length (List.drop (Int.toNat (0 : Int)) (List.take (Int.toNat (Go.IntKind.wrap .i64 (t2.1 + (1 : Int)))) t2.2.1))) * 8 < 140737488355328 then if (0 : Int) ≤ (Go.IntKind.wrap .i64 (t2.1 + (2 : Int))) then if (Go.IntKind.wrap .i64 (t2.1 + (2 : Int))) ≤ (List.length t2.2.1 : Int) then if (List.length t2.2.1 : Int) ≤ (List.length t2.2.1 : Int) then if (List.length (([] : List yf) ++ (List.drop (Int.toNat (0 : Int)) (List.take (Int.toNat (Go.IntKind.wrap .i64 (t2.1 + (1 : Int)))) t2.2.1))) + List.length (List.drop (Int.toNat (Go.IntKind.wrap .i64 (t2.1 + (2 : Int)))) (List.take (Int.toNat (List.length t2.2.1 : Int)) t2.2.1))) * 8 < 140737488355328 then if (0 : Int) ≤ (0 : Int) then if (0 : Int) ≤ t2.1 then if t2.1 ≤ (List.length t2.2.2 : Int) then if (List.length ([] : List y0) + List.length (List.drop (Int.toNat (0 : Int)) (List.take (Int.toNat t2.1) t2.2.2))) * 24 < 140737488355328 then Option.bind (yR (r2 ++ r3)) fun r4 => if (List.length (([] : List y0) ++ (List.drop (Int.toNat (0 : Int)) (List.take (Int.toNat t2.1) t2.2.2))) + List.length ([r4] : List y0)) * 24 < 140737488355328 then if (0 : Int) ≤ (Go.IntKind.wrap .i64 (t2.1 + (2 : Int))) then if (Go.IntKind.wrap .i64 (t2.1 + (2 : Int))) ≤ (List.length t2.2.2 : Int) then if (List.length t2.2.2 : Int) ≤ (List.length t2.2.2 : Int) then if (List.length ((([] : List y0) ++ (List.drop (Int.toNat (0 : Int)) (List.take (Int.toNat t2.1) t2.2.2))) ++ ([r4] : List y0)) + List.length (List.drop (Int.toNat (Go.IntKind.wrap .i64 (t2.1 + (2 : Int)))) (List.take (Int.toNat (List.length t2.2.2 : Int)) t2.2.2))) * 24 < 140737488355328 then Option.bind (Jp (((([] : List yf) ++ (List.drop (Int.toNat (0 : Int)) (List.take (Int.toNat (Go.IntKind.wrap .i64 (t2.1 + (1 : Int)))) t2.2.1))) ++ (List.drop (Int.toNat (Go.IntKind.wrap .i64 (t2.1 + (2 : Int)))) (List.take (Int.toNat (List.length t2.2.1 : Int)) t2.2.1))), (((([] : List y0) ++ (List.drop (Int.toNat (0 : Int)) (List.take (Int.toNat t2.1) t2.2.2))) ++ ([r4] : List y0)) ++ (List.drop (Int.toNat (Go.IntKind.wrap .i64 (t2.1 + (2 : Int)))) (List.take (Int.toNat (List.length t2.2.2 : Int)) t2.2.2))))) fun r5 => again (r5, ((([] : List yf) ++ (List.drop (Int.toNat (0 : Int)) (List.take (Int.toNat (Go.IntKind.wrap .i64 (t2.1 + (1 : Int)))) t2.2.1))) ++ (List.drop (Int.toNat (Go.IntKind.wrap .i64 (t2.1 + (2 : Int)))) (List.take (Int.toNat (List.length t2.2.1 : Int)) t2.2.1))), (((([] : List y0) ++ (List.drop (Int.toNat (0 : Int)) (List.take (Int.toNat t2.1) t2.2.2))) ++ ([r4] : List y0)) ++ (List.drop (Int.toNat (Go.IntKind.wrap .i64 (t2.1 + (2 : Int)))) (List.take (Int.toNat (List.length t2.2.2 : Int)) t2.2.2)))) else none else none else none else none else none else none else none else none else none else none else none else none else none else none else none else none else none else none else none else none else none else none else k0 t2.2
def qY k0 := zE (@W0 R k0) zW
def YU (x : Qz8) : Option Qz8 :=
 Option.bind (Jp x) fun r1 => qY (fun x6 => some x6) (r1, x)
def yj0 : List QF := [yik, yso, yAp]
def y60 (t : y8L) : St := ⟨.dead :: .box 1 0 :: .box 2 0 :: vI t.1 :: dd 56 [], [(1, .box [.own 10000000, .own 10000001]), (2, .box [.nils, .nils]), (10000000, .root true 3 yi t.2.1), (10000001, .root true 140 yh t.2.2)]⟩
def ygX : Gk KO := fun κ => W0 (fun t => κ (some 0) ⟨.dead :: .box 1 0 :: .box 2 0 :: dd 57 [], [(1, .box [.own 10000000, .own 10000001]), (2, .box [.nils, .nils]), (10000000, .root true 3 yi t.1), (10000001, .root true 140 yh t.2)]⟩)
def yj1 : Lp := lpC 2 (unG ydN y60) @ygX lpN
theorem yq4 : LF yj0 yj1 235 2 Tryz.f235 0 y60 @ygX fun t => t := fun R κ again t => by kernel_rfl
theorem yq5 : LK yj0 yj1 235 Tryz.f235 0 := lkN (u := (unG ydN y60)) (yr fun t => by kernel_rfl) yq4
theorem yuQ : EV yj0 yj1 235 Tryz.f235 ynz qz8 qz8 YU := fun x => by kernel_rfl
def yAq : QF := ⟨235, YU, okN (n := 1) Tryz.func235 ⟨yq5, trivial⟩ yuQ⟩
def zH (x : yy1) : Option yy3 :=
 Option.bind (YQ (x.1, x.2.1)) fun r1 => Option.bind (Y9 (x.1, x.2.1)) fun r2 => Option.bind (bif (!r2) then some true else Option.bind (wF x.2.2) fun r4 => some (!r4)) fun u3 => bif u3 then some (r1.1, r1.2, false) else Option.bind (jl (x.1, x.2.1, x.2.2.1, x.2.2.2.1)) fun r5 => if (0 : Int) ≤ r5 then if r5 < (List.length x.2.1 : Int) then Option.bind (Yu ((yg x.2.1 r5), x.2.2.1, x.2.2.2.1, x.2.2.2.2.1, x.2.2.2.2.2.1, x.2.2.2.2.2.2)) fun r6 => if (0 : Int) ≤ r5 then if r5 < (List.length x.1 : Int) then Option.bind (jN (r1.1, r1.2, r5, ([(zC x.1 r5)] : List yf), ([r6.1] : List y0))) fun r7 => bif (!r6.2) then if (0 : Int) ≤ r5 then if r5 < (List.length x.2.1 : Int) then Option.bind (yA (yg x.2.1 r5)) fun r8 => Option.bind (zp (r8, x.2.2)) fun r9 => Option.bind (zS r9) fun r10 => if (0 : Int) ≤ r5 then if r5 < (List.length x.1 : Int) then if (0 : Int) ≤ (Go.IntKind.wrap .i64 (Int.tdiv (Go.IntKind.wrap .i64 ((List.length r10 : Int) + (1 : Int))) (2 : Int))) then if (Go.IntKind.wrap .i64 (Int.tdiv (Go.IntKind.wrap .i64 ((List.length r10 : Int) + (1 : Int))) (2 : Int))) < (List.length r10 : Int) then Option.bind (Jk ((y8 r10 (Go.IntKind.wrap .i64 (Int.tdiv (Go.IntKind.wrap .i64 ((List.length r10 : Int) + (1 : Int))) (2 : Int)))).1, (y8 r10 (Go.IntKind.wrap .i64 (Int.tdiv (Go.IntKind.wrap .i64 ((List.length r10 : Int) + (1 : Int))) (2 : Int)))).2.1, (y8 r10 (Go.IntKind.wrap .i64 (Int.tdiv (Go.IntKind.wrap .i64 ((List.length r10 : Int) + (1 : Int))) (2 : Int)))).2.2.1, (y8 r10 (Go.IntKind.wrap .i64 (Int.tdiv (Go.IntKind.wrap .i64 ((List.length r10 : Int) + (1 : Int))) (2 : Int)))).2.2.2.1, (y8 r10 (Go.IntKind.wrap .i64 (Int.tdiv (Go.IntKind.wrap .i64 ((List.length r10 : Int) + (1 : Int))) (2 : Int)))).2.2.2.2)) fun r11 => if (0 : Int) ≤ (0 : Int) then if (0 : Int) ≤ (Go.IntKind.wrap .i64 (Int.tdiv (Go.IntKind.wrap .i64 ((List.length r10 : Int) + (1 : Int))) (2 : Int))) then if (Go.IntKind.wrap .i64 (Int.tdiv (Go.IntKind.wrap .i64 ((List.length r10 : Int) + (1 : Int))) (2 : Int))) ≤ (List.length r10 : Int) then Option.bind (yR (List.drop (Int.toNat (0 : Int)) (List.take (Int.toNat (Go.IntKind.wrap .i64 (Int.tdiv (Go.IntKind.wrap .i64 ((List.length r10 : Int) + (1 : Int))) (2 : Int)))) r10))) fun r12 => if (0 : Int) ≤ (Go.IntKind.wrap .i64 (Int.tdiv (Go.IntKind.wrap .i64 ((List.length r10 : Int) + (1 : Int))) (2 : Int))) then if (Go.IntKind.wrap .i64 (Int.tdiv (Go.IntKind.wrap .i64 ((List.length r10 : Int) + (1 : Int))) (2 : Int))) ≤ (List.length r10 : Int) then if (List.length r10 : Int) ≤ (List.length r10 : Int) then Option.bind (yR (List.drop (Int.toNat (Go.IntKind.wrap .i64 (Int.tdiv (Go.IntKind.wrap .i64 ((List.length r10 : Int) + (1 : Int))) (2 : Int)))) (List.take (Int.toNat (List.length r10 : Int)) r10))) fun r13 => Option.bind (jN (r1.1, r1.2, r5, ([(zC x.1 r5), r11] : List yf), ([r12, r13] : List y0))) fun r14 => Option.bind (YU r14) fun r15 => Option.bind (Y9 r15) fun r16 => bif (!r16) then some (r1.1, r1.2, false) else some (r15.1, r15.2, true) else none else none else none else none else none else none else none else none else none else none else none else none else Option.bind (bif (decide (r5 > (0 : Int))) then Option.bind (yA r6.1) fun r18 => some ((List.length r18 : Int) == (0 : Int)) else some false) fun u17 => bif u17 then Option.bind (jN (r1.1, r1.2, r5, ([] : List yf), ([] : List y0))) fun r19 => Option.bind (YU r19) fun r20 => Option.bind (Y9 r20) fun r21 => bif (!r21) then some (r1.1, r1.2, false) else some (r20.1, r20.2, true) else Option.bind (YU r7) fun r22 => Option.bind (Y9 r22) fun r23 => bif (!r23) then some (r1.1, r1.2, false) else some (r22.1, r22.2, true) else none else none else none else none
theorem yuR : EV [ytX, yz9, yz7, yzc, yze, yAo, yu1, ysl, yik, yz6, yso, yAq] lpN 104 Tryz.f104 ynA yy2 yy4 zH := fun x => by kernel_rfl
def ysp : QF := ⟨104, zH, okN (n := 0) Tryz.func104 trivial yuR⟩
abbrev W1 : Type := yy5
def W2 (k0 : ysX → Option R) (k1 : yes → Option R) (again : W1 → Option R) (t2 : W1) : Option R :=
 bif (decide (t2.2.2.1 ≥ (0 : Int))) then if (0 : Int) ≤ t2.2.2.1 then if t2.2.2.1 < (List.length t2.2.2.2.1 : Int) then Option.bind (wG ((yp t2.2.2.2.1 t2.2.2.1), t2.1, t2.2.1)) fun r1 => Option.bind (bif r1.2.2.2.2.2 then some (r1.2.2.1 == (0 : Int)) else some false) fun u2 => bif u2 then k0 (false, (0 : Int), (0 : Int), (0 : Int), (0 : Int), (0 : Int)) else bif r1.2.2.2.2.2 then k0 (true, r1.1, r1.2.1, r1.2.2.1, r1.2.2.2.1, r1.2.2.2.2.1) else again (t2.1, t2.2.1, (Go.IntKind.wrap .i64 (t2.2.2.1 - (1 : Int))), t2.2.2.2.1, t2.2.2.2.2.1, t2.2.2.2.2.2.1, t2.2.2.2.2.2.2.1, t2.2.2.2.2.2.2.2.1, t2.2.2.2.2.2.2.2.2) else none else none else k1 t2.2.2.2.2
def qZ k0 k1 := zE (@W2 R k0 k1) zW
def W3 (x : ykM) : Option yi3 :=
 qZ (fun x3 => some (x3.2.1, x3.2.2.1, x3.2.2.2.1, x3.2.2.2.2.1, x3.2.2.2.2.2, x3.1)) (fun x4 => some ((0 : Int), (0 : Int), (0 : Int), (0 : Int), (0 : Int), false)) (x.2.1, x.2.2, (Go.IntKind.wrap .i64 ((List.length x.1 : Int) - (1 : Int))), x.1, (0 : Int), (0 : Int), (0 : Int), (0 : Int), (0 : Int))
def yj2 : List QF := [yzd]
def y61 (t : yy5) : St := ⟨.dead :: vI t.1 :: vI t.2.1 :: .box 3 0 :: dd 2 (.box 6 0 :: .dead :: vI t.2.2.1 :: dd 31 []), [(3, .box [Yj t.2.2.2.1]), (6, .box [vI t.2.2.2.2.1, vI t.2.2.2.2.2.1, vI t.2.2.2.2.2.2.1, vI t.2.2.2.2.2.2.2.1, vI t.2.2.2.2.2.2.2.2])]⟩
def ygY : Gk W1 := fun κ => W2 (fun t => κ none ⟨dd 6 (.box 6 0 :: vB t.1 :: dd 32 []), [(6, .box [vI t.2.1, vI t.2.2.1, vI t.2.2.2.1, vI t.2.2.2.2.1, vI t.2.2.2.2.2])]⟩) (fun t => κ (some 0) ⟨dd 6 (.box 6 0 :: dd 33 []), [(6, .box [vI t.1, vI t.2.1, vI t.2.2.1, vI t.2.2.2.1, vI t.2.2.2.2])]⟩)
def yj3 : Lp := lpC 2 (unG yy6 y61) @ygY lpN
theorem yq6 : LF yj2 yj3 336 2 Tryz.f336 0 y61 @ygY fun t => t := fun R κ again t => by kernel_rfl
theorem yq7 : LK yj2 yj3 336 Tryz.f336 0 := lkN (u := (unG yy6 y61)) (yr fun t => by kernel_rfl) yq6
theorem yuS : EV yj2 yj3 336 Tryz.f336 ynB yt0 yi4 W3 := fun x => by kernel_rfl
def yAr : QF := ⟨336, W3, okN (n := 1) Tryz.func336 ⟨yq7, trivial⟩ yuS⟩
def ZO (x : ysV) : Option yi3 :=
 Option.bind (jl x) fun r1 => Option.bind (yz (r1, (0 : Int), (Go.IntKind.wrap .i64 ((List.length x.2.1 : Int) - (1 : Int))))) fun r2 => bif (!r2) then some ((0 : Int), (0 : Int), (0 : Int), (0 : Int), (0 : Int), false) else if (0 : Int) ≤ r1 then if r1 < (List.length x.2.1 : Int) then Option.bind (W3 ((yg x.2.1 r1), x.2.2.1, x.2.2.2)) fun r3 => some r3 else none else none
theorem yuT : EV [q96, yzc, yAr] lpN 283 Tryz.f283 ynC ysW yi4 ZO := fun x => by kernel_rfl
def yuU : QF := ⟨283, ZO, okN (n := 0) Tryz.func283 trivial yuT⟩
def YA (x : ygq) : Option (List y9) :=
 Option.bind (zR x.1) fun r1 => Option.bind (Zb x.1) fun r2 => Option.bind (bif r2 then Option.bind (yz (x.2, (0 : Int), (Go.IntKind.wrap .i64 ((List.length x.1 : Int) - (1 : Int))))) fun r4 => some r4 else some false) fun u3 => Option.bind (bif u3 then if (0 : Int) ≤ x.2 then if x.2 < (List.length x.1 : Int) then some ((yj x.1 x.2).2.1) else none else none else some false) fun u5 => bif u5 then if (0 : Int) ≤ x.2 then if x.2 < (List.length x.1 : Int) then if (0 : Int) ≤ x.2 then if x.2 < (List.length r1 : Int) then some (List.set r1 (Int.toNat x.2) ((Int.tmod (Go.IntKind.wrap .i64 ((yj x.1 x.2).1 + (1 : Int))) (1000 : Int)), false, (0 : Int))) else none else none else none else none else some r1
theorem yuV : EV [q96, ytZ, yum] lpN 105 Tryz.f105 ynD ygr [(.sl 113 ye)] YA := fun x => by kernel_rfl
def yuW : QF := ⟨105, YA, okN (n := 0) Tryz.func105 trivial yuV⟩
def JP (x : yzN) : Option Qz9 :=
 Option.bind (bif x.2.2.2.2.2.2.2.2.2.2.2 then some (x.2.2.2.2.2.2.2.2.1 == (1 : Int)) else some false) fun u1 => bif u1 then Option.bind (YA (x.2.2.2.1, x.2.2.2.2.2.2.2.2.2.1)) fun r2 => some (x.1, x.2.1, x.2.2.1, r2, x.2.2.2.2.1, x.2.2.2.2.2.1) else some (x.1, x.2.1, x.2.2.1, x.2.2.2.1, x.2.2.2.2.1, x.2.2.2.2.2.1)
theorem yuX : EV [yuW] lpN 284 Tryz.f284 ynE yzO qz9 JP := fun x => by kernel_rfl
def yAs : QF := ⟨284, JP, okN (n := 0) Tryz.func284 trivial yuX⟩
def zx (x : ysj) : Option yi1 :=
 Option.bind (ZO (x.1, x.2.1, x.2.2.2.2.2.2.1, x.2.2.2.2.2.2.2.1)) fun r1 => Option.bind (zH (x.1, x.2.1, x.2.2.2.2.2.2)) fun r2 => bif (!r2.2.2) then some (false, x.1, x.2.1, x.2.2.1, x.2.2.2.1, x.2.2.2.2.1, x.2.2.2.2.2.1) else Option.bind (JP (r2.1, r2.2.1, x.2.2.1, x.2.2.2.1, x.2.2.2.2.1, x.2.2.2.2.2.1, r1)) fun r3 => some (true, r3)
theorem yuY : EV [ysp, yuU, yAs] lpN 183 Tryz.f183 ynF ysk ysQ zx := fun x => by kernel_rfl
def yuZ : QF := ⟨183, zx, okN (n := 0) Tryz.func183 trivial yuY⟩
def wH (x : yzP) : Option y7c :=
 Option.bind (yl (x.1, x.2.1, x.2.2.1, x.2.2.2.1, x.2.2.2.2.1, x.2.2.2.2.2.1)) fun r1 => Option.bind (Yz (x.1, x.2.1, x.2.2.1, x.2.2.2.1, x.2.2.2.2.1, x.2.2.2.2.2.1, x.2.2.2.2.2.2.1, x.2.2.2.2.2.2.2.1)) fun r2 => Option.bind (bif (r2 == (0 : Int)) then Option.bind (zm x.2.2.2.2.2.2.2.2) fun r4 => some (!r4) else some false) fun u3 => bif u3 then bif ((4 : Int) != (0 : Int)) then some (r1.1, r1.2.1, r1.2.2.1, r1.2.2.2.1, r1.2.2.2.2.1, r1.2.2.2.2.2, (4 : Int)) else Option.bind (zG (x.2.2.2.1, x.2.2.2.2.2.2.2.2)) fun r5 => bif r5.2.2 then Option.bind (zj (x.1, x.2.1, x.2.2.1, x.2.2.2.1, x.2.2.2.2.1, x.2.2.2.2.2.1, x.2.2.2.2.2.2.1)) fun r6 => if (0 : Int) ≤ r6 then if r6 < (List.length x.2.2.2.2.1 : Int) then if (0 : Int) ≤ r5.2.1 then if r5.2.1 < (List.length r5.1 : Int) then Option.bind (zx (r1.1, r1.2.1, r1.2.2.1, r5.1, r1.2.2.2.2.1, r1.2.2.2.2.2, x.2.2.2.2.2.2.2.1, (yq x.2.2.2.2.1 r6).2.1, (1 : Int), r5.2.1, (yj r5.1 r5.2.1).1)) fun r7 => Option.bind (yO (x.1, x.2.1, x.2.2.1, x.2.2.2.1, x.2.2.2.2.1, x.2.2.2.2.2.1, r7.2.1, r7.2.2.1, r7.2.2.2.1, r7.2.2.2.2.1, r7.2.2.2.2.2.1, r7.2.2.2.2.2.2, r7.1)) fun r8 => some r8 else none else none else none else none else Option.bind (yO (x.1, x.2.1, x.2.2.1, x.2.2.2.1, x.2.2.2.2.1, x.2.2.2.2.2.1, r1.1, r1.2.1, r1.2.2.1, r5.1, r1.2.2.2.2.1, r1.2.2.2.2.2, false)) fun r9 => some r9 else bif (r2 != (0 : Int)) then some (r1.1, r1.2.1, r1.2.2.1, r1.2.2.2.1, r1.2.2.2.2.1, r1.2.2.2.2.2, r2) else Option.bind (zG (x.2.2.2.1, x.2.2.2.2.2.2.2.2)) fun r10 => bif r10.2.2 then Option.bind (zj (x.1, x.2.1, x.2.2.1, x.2.2.2.1, x.2.2.2.2.1, x.2.2.2.2.2.1, x.2.2.2.2.2.2.1)) fun r11 => if (0 : Int) ≤ r11 then if r11 < (List.length x.2.2.2.2.1 : Int) then if (0 : Int) ≤ r10.2.1 then if r10.2.1 < (List.length r10.1 : Int) then Option.bind (zx (r1.1, r1.2.1, r1.2.2.1, r10.1, r1.2.2.2.2.1, r1.2.2.2.2.2, x.2.2.2.2.2.2.2.1, (yq x.2.2.2.2.1 r11).2.1, (1 : Int), r10.2.1, (yj r10.1 r10.2.1).1)) fun r12 => Option.bind (yO (x.1, x.2.1, x.2.2.1, x.2.2.2.1, x.2.2.2.2.1, x.2.2.2.2.2.1, r12.2.1, r12.2.2.1, r12.2.2.2.1, r12.2.2.2.2.1, r12.2.2.2.2.2.1, r12.2.2.2.2.2.2, r12.1)) fun r13 => some r13 else none else none else none else none else Option.bind (yO (x.1, x.2.1, x.2.2.1, x.2.2.2.1, x.2.2.2.2.1, x.2.2.2.2.2.1, r1.1, r1.2.1, r1.2.2.1, r10.1, r1.2.2.2.2.1, r1.2.2.2.2.2, false)) fun r14 => some r14
theorem yAt : EV [q94, yuH, ygQ, ykQ, yuJ, ysm, yuZ] lpN 66 Tryz.f66 yyw yzQ y7d wH := fun x => by kernel_rfl
def q66 : QF := ⟨66, wH, okN (n := 0) Tryz.func66 trivial yAt⟩
abbrev W4 : Type := yy7
def W5 (k0 : List yf → Option R) (again : W4 → Option R) (t3 : W4) : Option R :=
 Option.bind (bif (decide (t3.2.1 ≥ (0 : Int))) then some (decide ((List.length t3.2.2 : Int) ≤ (List.length t3.1 : Int))) else some false) fun u2 => bif u2 then if (0 : Int) ≤ t3.2.1 then if t3.2.1 < (List.length t3.1 : Int) then if (List.length t3.2.2 + List.length ([(yK t3.1 t3.2.1).1] : List yf)) * 8 < 140737488355328 then if (0 : Int) ≤ t3.2.1 then if t3.2.1 < (List.length t3.1 : Int) then Option.bind (zD (t3.1, (yK t3.1 t3.2.1).2)) fun r3 => again (t3.1, r3, (t3.2.2 ++ ([(yK t3.1 t3.2.1).1] : List yf))) else none else none else none else none else none else k0 t3.2.2
def Q0 k0 := zE (@W5 R k0) zW
def Jq (x : yet) : Option (List yf) :=
 Option.bind (zD x) fun r1 => Q0 (fun x4 => some x4) (x.1, r1, ([] : List yf))
def yj4 : List QF := [ykP]
def y62 (t : yy7) : St := ⟨zk t.1 :: dd 4 (.own 10000000 :: vI t.2.1 :: dd 29 []), [(10000000, .root true 3 yi t.2.2)]⟩
def ygZ : Gk W4 := fun κ => W5 (fun t => κ (some 0) ⟨dd 5 (.own 10000000 :: dd 30 []), [(10000000, .root true 3 yi t)]⟩)
def yj5 : Lp := lpC 3 (unG yy8 y62) @ygZ lpN
theorem yq8 : LF yj4 yj5 324 3 Tryz.f324 0 y62 @ygZ fun t => t := fun R κ again t => by kernel_rfl
theorem yq9 : LK yj4 yj5 324 Tryz.f324 0 := lkN (u := (unG yy8 y62)) (yr fun t => by kernel_rfl) yq8
theorem yv0 : EV yj4 yj5 324 Tryz.f324 ynG yeu [(.sl 3 yi)] Jq := fun x => by kernel_rfl
def yzf : QF := ⟨324, Jq, okN (n := 1) Tryz.func324 ⟨yq9, trivial⟩ yv0⟩
abbrev KP : Type := yy9
def jO (k0 : List ya → Option R) (again : KP → Option R) (t4 : KP) : Option R :=
 bif (decide (t4.2.1 < (List.length t4.2.2.2 : Int))) then if (0 : Int) ≤ t4.2.1 then if t4.2.1 < (List.length t4.2.2.2 : Int) then bif ((y8 t4.2.2.2 t4.2.1).1 == t4.1) then if (0 : Int) ≤ t4.2.1 then if t4.2.1 < (List.length t4.2.2.2 : Int) then if (List.length t4.2.2.1 + List.length ([((y8 t4.2.2.2 t4.2.1).1, (y8 t4.2.2.2 t4.2.1).2.1, (y8 t4.2.2.2 t4.2.1).2.2.1, (y8 t4.2.2.2 t4.2.1).2.2.2.1, (y8 t4.2.2.2 t4.2.1).2.2.2.2)] : List ya)) * 40 < 140737488355328 then again (t4.1, (Go.IntKind.wrap .i64 (t4.2.1 + (1 : Int))), (t4.2.2.1 ++ ([((y8 t4.2.2.2 t4.2.1).1, (y8 t4.2.2.2 t4.2.1).2.1, (y8 t4.2.2.2 t4.2.1).2.2.1, (y8 t4.2.2.2 t4.2.1).2.2.2.1, (y8 t4.2.2.2 t4.2.1).2.2.2.2)] : List ya)), t4.2.2.2) else none else none else none else again (t4.1, (Go.IntKind.wrap .i64 (t4.2.1 + (1 : Int))), t4.2.2.1, t4.2.2.2) else none else none else k0 t4.2.2.1
def Q1 k0 := zE (@jO R k0) zW
def W6 (x : ylc) : Option (List ya) :=
 Option.bind (yG (x.1, x.2.1)) fun r1 => Q1 (fun x2 => some x2) (x.2.2, (0 : Int), ([] : List ya), r1)
def yj6 : List QF := [yin]
def y63 (t : yy9) : St := ⟨.dead :: vI t.1 :: dd 3 (.own 10000000 :: .own 10000001 :: vI t.2.1 :: dd 24 []), [(10000000, .root true 64 yk t.2.2.1), (10000001, .root true 64 yk t.2.2.2)]⟩
def yh0 : Gk KP := fun κ => jO (fun t => κ (some 0) ⟨dd 5 (.own 10000000 :: dd 26 []), [(10000000, .root true 64 yk t)]⟩)
def yj7 : Lp := lpC 4 (unG yya y63) @yh0 lpN
theorem yqa : LF yj6 yj7 350 4 Tryz.f350 0 y63 @yh0 fun t => t := fun R κ again t => by kernel_rfl
theorem yqb : LK yj6 yj7 350 Tryz.f350 0 := lkN (u := (unG yya y63)) (yr fun t => by kernel_rfl) yqa
theorem yv1 : EV yj6 yj7 350 Tryz.f350 ynH yld [(.sl 64 yk)] W6 := fun x => by kernel_rfl
def yAu : QF := ⟨350, W6, okN (n := 1) Tryz.func350 ⟨yqb, trivial⟩ yv1⟩
abbrev vX : Type := yyb
def JQ (k0 : Bool → Option R) (k1 : Unit → Option R) (again : vX → Option R) (t2 : vX) : Option R :=
 bif (decide (t2.2.2 < (List.length t2.1 : Int))) then if (0 : Int) ≤ t2.2.2 then if t2.2.2 < (List.length t2.1 : Int) then bif ((zC t2.1 t2.2.2) == t2.2.1) then k0 true else again (t2.1, t2.2.1, (Go.IntKind.wrap .i64 (t2.2.2 + (1 : Int)))) else none else none else k1 ()
def y00 k0 k1 := zE (@JQ R k0 k1) zW
def kO (x : yzR) : Option Bool :=
 y00 (fun x1 => some x1) (fun x2 => some false) (x.1, x.2, (0 : Int))
def yj8 : List QF := []
def y64 (t : yyb) : St := ⟨z7 t.1 :: vI t.2.1 :: dd 3 (vI t.2.2 :: dd 12 []), []⟩
def yh1 : Gk vX := fun κ => JQ (fun t => κ none ⟨dd 4 (vB t :: dd 13 []), []⟩) (fun t => κ (some 0) ⟨dd 18 [], []⟩)
def yj9 : Lp := lpC 2 (unG yyc y64) @yh1 lpN
theorem yqc : LF yj8 yj9 351 2 Tryz.f351 0 y64 @yh1 fun t => t := fun R κ again t => by kernel_rfl
theorem yqd : LK yj8 yj9 351 Tryz.f351 0 := lkN (u := (unG yyc y64)) (yr fun t => by kernel_rfl) yqc
theorem yv2 : EV yj8 yj9 351 Tryz.f351 ynI yzS [.bool] kO := fun x => by kernel_rfl
def yAv : QF := ⟨351, kO, okN (n := 1) Tryz.func351 ⟨yqd, trivial⟩ yv2⟩
abbrev KQ : Type := yyd
def jP (k0 : yzT → Option R) (again : KQ → Option R) (t5 : KQ) : Option R :=
 bif (decide (t5.2.2.1 < (List.length t5.2.2.2.2.2.2.2.2.2.2.2.2.2 : Int))) then if (0 : Int) ≤ t5.2.2.1 then if t5.2.2.1 < (List.length t5.2.2.2.2.2.2.2.2.2.2.2.2.2 : Int) then Option.bind (kO (t5.1, (y8 t5.2.2.2.2.2.2.2.2.2.2.2.2.2 t5.2.2.1).2.1)) fun r2 => Option.bind (bif r2 then Option.bind (bif (!t5.2.1) then some true else if (0 : Int) ≤ t5.2.2.1 then if t5.2.2.1 < (List.length t5.2.2.2.2.2.2.2.2.2.2.2.2.2 : Int) then some (decide ((y8 t5.2.2.2.2.2.2.2.2.2.2.2.2.2 t5.2.2.1).2.1 > t5.2.2.2.2.2.2.2.2.2.1)) else none else none) fun u4 => some u4 else some false) fun u3 => bif u3 then if (0 : Int) ≤ t5.2.2.1 then if t5.2.2.1 < (List.length t5.2.2.2.2.2.2.2.2.2.2.2.2.2 : Int) then again (t5.1, true, (Go.IntKind.wrap .i64 (t5.2.2.1 + (1 : Int))), t5.2.2.2.1, t5.2.2.2.2.1, t5.2.2.2.2.2.1, t5.2.2.2.2.2.2.1, t5.2.2.2.2.2.2.2.1, (y8 t5.2.2.2.2.2.2.2.2.2.2.2.2.2 t5.2.2.1).1, (y8 t5.2.2.2.2.2.2.2.2.2.2.2.2.2 t5.2.2.1).2.1, (y8 t5.2.2.2.2.2.2.2.2.2.2.2.2.2 t5.2.2.1).2.2.1, (y8 t5.2.2.2.2.2.2.2.2.2.2.2.2.2 t5.2.2.1).2.2.2.1, (y8 t5.2.2.2.2.2.2.2.2.2.2.2.2.2 t5.2.2.1).2.2.2.2, t5.2.2.2.2.2.2.2.2.2.2.2.2.2) else none else none else again (t5.1, t5.2.1, (Go.IntKind.wrap .i64 (t5.2.2.1 + (1 : Int))), t5.2.2.2.1, t5.2.2.2.2.1, t5.2.2.2.2.2.1, t5.2.2.2.2.2.2.1, t5.2.2.2.2.2.2.2.1, t5.2.2.2.2.2.2.2.2.1, t5.2.2.2.2.2.2.2.2.2.1, t5.2.2.2.2.2.2.2.2.2.2.1, t5.2.2.2.2.2.2.2.2.2.2.2.1, t5.2.2.2.2.2.2.2.2.2.2.2.2.1, t5.2.2.2.2.2.2.2.2.2.2.2.2.2) else none else none else k0 (t5.2.1, t5.2.2.2.1, t5.2.2.2.2.1, t5.2.2.2.2.2.1, t5.2.2.2.2.2.2.1, t5.2.2.2.2.2.2.2.1, t5.2.2.2.2.2.2.2.2.1, t5.2.2.2.2.2.2.2.2.2.1, t5.2.2.2.2.2.2.2.2.2.2.1, t5.2.2.2.2.2.2.2.2.2.2.2.1, t5.2.2.2.2.2.2.2.2.2.2.2.2.1)
def Q2 k0 := zE (@jP R k0) zW
def ZP (x : yzU) : Option yi3 :=
 Option.bind (W6 (x.1, x.2.1, x.2.2.1)) fun r1 => Q2 (fun x5 => some (x5.2.2.2.2.2.2.1, x5.2.2.2.2.2.2.2.1, x5.2.2.2.2.2.2.2.2.1, x5.2.2.2.2.2.2.2.2.2.1, x5.2.2.2.2.2.2.2.2.2.2, x5.1)) (x.2.2.2, false, (0 : Int), (0 : Int), (0 : Int), (0 : Int), (0 : Int), (0 : Int), (0 : Int), (0 : Int), (0 : Int), (0 : Int), (0 : Int), r1)
def yja : List QF := [yAu, yAv]
def y65 (t : yyd) : St := ⟨dd 2 (z7 t.1 :: dd 3 (.box 6 0 :: .dead :: .box 8 0 :: vB t.2.1 :: .own 10000000 :: vI t.2.2.1 :: dd 37 [])), [(6, .box [vI t.2.2.2.1, vI t.2.2.2.2.1, vI t.2.2.2.2.2.1, vI t.2.2.2.2.2.2.1, vI t.2.2.2.2.2.2.2.1]), (8, .box [vI t.2.2.2.2.2.2.2.2.1, vI t.2.2.2.2.2.2.2.2.2.1, vI t.2.2.2.2.2.2.2.2.2.2.1, vI t.2.2.2.2.2.2.2.2.2.2.2.1, vI t.2.2.2.2.2.2.2.2.2.2.2.2.1]), (10000000, .root true 64 yk t.2.2.2.2.2.2.2.2.2.2.2.2.2)]⟩
def yh2 : Gk KQ := fun κ => jP (fun t => κ (some 0) ⟨dd 6 (.box 6 0 :: .dead :: .box 8 0 :: vB t.1 :: dd 39 []), [(6, .box [vI t.2.1, vI t.2.2.1, vI t.2.2.2.1, vI t.2.2.2.2.1, vI t.2.2.2.2.2.1]), (8, .box [vI t.2.2.2.2.2.2.1, vI t.2.2.2.2.2.2.2.1, vI t.2.2.2.2.2.2.2.2.1, vI t.2.2.2.2.2.2.2.2.2.1, vI t.2.2.2.2.2.2.2.2.2.2])]⟩)
def yjb : Lp := lpC 5 (unG yye y65) @yh2 lpN
theorem yqe : LF yja yjb 325 5 Tryz.f325 0 y65 @yh2 fun t => t := fun R κ again t => by kernel_rfl
theorem yqf : LK yja yjb 325 Tryz.f325 0 := lkN (u := (unG yye y65)) (yr fun t => by kernel_rfl) yqe
theorem yv3 : EV yja yjb 325 Tryz.f325 ynJ yzV yi4 ZP := fun x => by kernel_rfl
def yzg : QF := ⟨325, ZP, okN (n := 1) Tryz.func325 ⟨yqf, trivial⟩ yv3⟩
def YM (x : yyf) : Option yi3 :=
 Option.bind (Jq (x.2.2.1, x.2.2.2.2)) fun r1 => bif ((List.length r1 : Int) == (0 : Int)) then some ((0 : Int), (0 : Int), (0 : Int), (0 : Int), (0 : Int), false) else if (0 : Int) ≤ (1 : Int) then if (1 : Int) ≤ (List.length r1 : Int) then if (List.length r1 : Int) ≤ (List.length r1 : Int) then Option.bind (ZP (x.1, x.2.1, x.2.2.2.1, (List.drop (Int.toNat (1 : Int)) (List.take (Int.toNat (List.length r1 : Int)) r1)))) fun r2 => some r2 else none else none else none
theorem yv4 : EV [yzf, yzg] lpN 257 Tryz.f257 ynK yyg yi4 YM := fun x => by kernel_rfl
def yzh : QF := ⟨257, YM, okN (n := 0) Tryz.func257 trivial yv4⟩
def Y4 (x : yzW) : Option yi1 :=
 if (0 : Int) ≤ x.2.2.2.2.2.2.1 then if x.2.2.2.2.2.2.1 < (List.length x.2.2.2.2.1 : Int) then Option.bind (YM (x.1, x.2.1, x.2.2.1, x.2.2.2.2.2.2.2, (yq x.2.2.2.2.1 x.2.2.2.2.2.2.1).2.1)) fun r1 => Option.bind (bif r1.2.2.2.2.2 then some (r1.2.2.1 == (1 : Int)) else some false) fun u2 => bif u2 then Option.bind (zx (x.1, x.2.1, x.2.2.1, x.2.2.2.1, x.2.2.2.2.1, x.2.2.2.2.2.1, x.2.2.2.2.2.2.2, (yq x.2.2.2.2.1 x.2.2.2.2.2.2.1).2.1, (2 : Int), (0 : Int), (0 : Int))) fun r3 => some r3 else Option.bind (ZO (x.1, x.2.1, x.2.2.2.2.2.2.2, (yq x.2.2.2.2.1 x.2.2.2.2.2.2.1).2.1)) fun r4 => bif (!r4.2.2.2.2.2) then some (true, x.1, x.2.1, x.2.2.1, x.2.2.2.1, x.2.2.2.2.1, x.2.2.2.2.2.1) else Option.bind (zx (x.1, x.2.1, x.2.2.1, x.2.2.2.1, x.2.2.2.2.1, x.2.2.2.2.2.1, x.2.2.2.2.2.2.2, (yq x.2.2.2.2.1 x.2.2.2.2.2.2.1).2.1, (0 : Int), (0 : Int), (0 : Int))) fun r5 => some r5 else none else none
theorem yv5 : EV [yuZ, yzh, yuU] lpN 186 Tryz.f186 ynL yzX ysQ Y4 := fun x => by kernel_rfl
def yzi : QF := ⟨186, Y4, okN (n := 0) Tryz.func186 trivial yv5⟩
def jm (x : ysh) : Option y7c :=
 Option.bind (yl (x.1, x.2.1, x.2.2.1, x.2.2.2.1, x.2.2.2.2.1, x.2.2.2.2.2.1)) fun r1 => Option.bind (Yz x) fun r2 => bif (r2 != (0 : Int)) then some (r1.1, r1.2.1, r1.2.2.1, r1.2.2.2.1, r1.2.2.2.2.1, r1.2.2.2.2.2, r2) else Option.bind (zj (x.1, x.2.1, x.2.2.1, x.2.2.2.1, x.2.2.2.2.1, x.2.2.2.2.2.1, x.2.2.2.2.2.2.1)) fun r3 => Option.bind (Y4 (r1.1, r1.2.1, r1.2.2.1, r1.2.2.2.1, r1.2.2.2.2.1, r1.2.2.2.2.2, r3, x.2.2.2.2.2.2.2)) fun r4 => Option.bind (yO (x.1, x.2.1, x.2.2.1, x.2.2.2.1, x.2.2.2.2.1, x.2.2.2.2.2.1, r4.2.1, r4.2.2.1, r4.2.2.2.1, r4.2.2.2.2.1, r4.2.2.2.2.2.1, r4.2.2.2.2.2.2, r4.1)) fun r5 => some r5
theorem yAw : EV [q94, ygQ, ykQ, yuJ, yzi] lpN 70 Tryz.f70 yyx ysi y7d jm := fun x => by kernel_rfl
def q70 : QF := ⟨70, jm, okN (n := 0) Tryz.func70 trivial yAw⟩
abbrev wi : Type := yle ⊕ ylf
def j7 (k0 : yzY → Option R) (k1 : yzZ → Option R) (again : wi → Option R) : wi → Option R
 | .inl t10 => Option.bind (bif (decide (t10.2.2.2.1 ≥ t10.1)) then some t10.2.2.1 else some false) fun u15 => bif u15 then Option.bind (Y4 (t10.2.2.2.2.2.2.2.2.2.2.2.2.1, t10.2.2.2.2.2.2.2.2.2.2.2.2.2.1, t10.2.2.2.2.2.2.2.2.2.2.2.2.2.2.1, t10.2.2.2.2.2.2.2.2.2.2.2.2.2.2.2.1, t10.2.2.2.2.2.2.2.2.2.2.2.2.2.2.2.2, t10.2.2.2.2.2.2.2.2.2.2.2.1, t10.2.1, t10.2.2.2.1)) fun r16 => again (Sum.inr (t10.1, t10.2.1, r16.1, (Go.IntKind.wrap .i64 (t10.2.2.2.1 - (1 : Int))), t10.2.2.2.2.1, t10.2.2.2.2.2.1, t10.2.2.2.2.2.2.1, t10.2.2.2.2.2.2.2.1, t10.2.2.2.2.2.2.2.2.1, t10.2.2.2.2.2.2.2.2.2.1, t10.2.2.2.2.2.2.2.2.2.2.1, r16.2.1, r16.2.2.1, r16.2.2.2.1, r16.2.2.2.2.2.2, r16.2.2.2.2.1, r16.2.2.2.2.2.1)) else k0 (t10.1, t10.2.1, t10.2.2.1, t10.2.2.2.2)
 | .inr t10 => Option.bind (bif (decide (t10.2.2.2.1 ≥ t10.1)) then some t10.2.2.1 else some false) fun u17 => bif u17 then Option.bind (Y4 (t10.2.2.2.2.2.2.2.2.2.2.2.1, t10.2.2.2.2.2.2.2.2.2.2.2.2.1, t10.2.2.2.2.2.2.2.2.2.2.2.2.2.1, t10.2.2.2.2.2.2.2.2.2.2.2.2.2.2.2.1, t10.2.2.2.2.2.2.2.2.2.2.2.2.2.2.2.2, t10.2.2.2.2.2.2.2.2.2.2.2.2.2.2.1, t10.2.1, t10.2.2.2.1)) fun r18 => again (Sum.inr (t10.1, t10.2.1, r18.1, (Go.IntKind.wrap .i64 (t10.2.2.2.1 - (1 : Int))), t10.2.2.2.2.1, t10.2.2.2.2.2.1, t10.2.2.2.2.2.2.1, t10.2.2.2.2.2.2.2.1, t10.2.2.2.2.2.2.2.2.1, t10.2.2.2.2.2.2.2.2.2.1, t10.2.2.2.2.2.2.2.2.2.2.1, r18.2.1, r18.2.2.1, r18.2.2.2.1, r18.2.2.2.2.2.2, r18.2.2.2.2.1, r18.2.2.2.2.2.1)) else k1 (t10.1, t10.2.1, t10.2.2.1, t10.2.2.2.2)
def wj k0 k1 := zE (@j7 R k0 k1) zW
def Jr (x : ysh) : Option y7c :=
 Option.bind (yl (x.1, x.2.1, x.2.2.1, x.2.2.2.1, x.2.2.2.2.1, x.2.2.2.2.2.1)) fun r1 => Option.bind (Yz (x.1, x.2.1, x.2.2.1, x.2.2.2.1, x.2.2.2.2.1, x.2.2.2.2.2.1, x.2.2.2.2.2.2.1, (0 : Int))) fun r2 => Option.bind (bif (r2 == (0 : Int)) then Option.bind (yz (x.2.2.2.2.2.2.2, (1 : Int), (12 : Int))) fun r4 => some (!r4) else some false) fun u3 => bif u3 then bif ((4 : Int) != (0 : Int)) then some (r1.1, r1.2.1, r1.2.2.1, r1.2.2.2.1, r1.2.2.2.2.1, r1.2.2.2.2.2, (4 : Int)) else Option.bind (zj (x.1, x.2.1, x.2.2.1, x.2.2.2.1, x.2.2.2.2.1, x.2.2.2.2.2.1, x.2.2.2.2.2.2.1)) fun r5 => if (0 : Int) ≤ r5 then if r5 < (List.length x.2.2.2.2.1 : Int) then wj (fun x10 => if (0 : Int) ≤ x10.2.1 then if x10.2.1 < (List.length x10.2.2.2.2.2.2.2.2.2.2.2.2.2.2.2 : Int) then Option.bind (yO (x10.2.2.2.1, x10.2.2.2.2.1, x10.2.2.2.2.2.1, x10.2.2.2.2.2.2.1, x10.2.2.2.2.2.2.2.1, x10.2.2.2.2.2.2.2.2.1, x10.2.2.2.2.2.2.2.2.2.2.2.1, x10.2.2.2.2.2.2.2.2.2.2.2.2.1, x10.2.2.2.2.2.2.2.2.2.2.2.2.2.1, x10.2.2.2.2.2.2.2.2.2.2.2.2.2.2.1, (List.set x10.2.2.2.2.2.2.2.2.2.2.2.2.2.2.2 (Int.toNat x10.2.1) ((yq x10.2.2.2.2.2.2.2.2.2.2.2.2.2.2.2 x10.2.1).1, (yq x10.2.2.2.2.2.2.2.2.2.2.2.2.2.2.2 x10.2.1).2.1, x10.1, (yq x10.2.2.2.2.2.2.2.2.2.2.2.2.2.2.2 x10.2.1).2.2.2)), x10.2.2.2.2.2.2.2.2.2.2.1, x10.2.2.1)) fun r11 => some r11 else none else none) (fun x12 => if (0 : Int) ≤ x12.2.1 then if x12.2.1 < (List.length x12.2.2.2.2.2.2.2.2.2.2.2.2.2.2.2 : Int) then Option.bind (yO (x12.2.2.2.1, x12.2.2.2.2.1, x12.2.2.2.2.2.1, x12.2.2.2.2.2.2.1, x12.2.2.2.2.2.2.2.1, x12.2.2.2.2.2.2.2.2.1, x12.2.2.2.2.2.2.2.2.2.2.1, x12.2.2.2.2.2.2.2.2.2.2.2.1, x12.2.2.2.2.2.2.2.2.2.2.2.2.1, x12.2.2.2.2.2.2.2.2.2.2.2.2.2.2.1, (List.set x12.2.2.2.2.2.2.2.2.2.2.2.2.2.2.2 (Int.toNat x12.2.1) ((yq x12.2.2.2.2.2.2.2.2.2.2.2.2.2.2.2 x12.2.1).1, (yq x12.2.2.2.2.2.2.2.2.2.2.2.2.2.2.2 x12.2.1).2.1, x12.1, (yq x12.2.2.2.2.2.2.2.2.2.2.2.2.2.2.2 x12.2.1).2.2.2)), x12.2.2.2.2.2.2.2.2.2.2.2.2.2.1, x12.2.2.1)) fun r13 => some r13 else none else none) (Sum.inl (x.2.2.2.2.2.2.2, r5, true, (Go.IntKind.wrap .i64 ((yq x.2.2.2.2.1 r5).2.2.1 - (1 : Int))), x.1, x.2.1, x.2.2.1, x.2.2.2.1, x.2.2.2.2.1, x.2.2.2.2.2.1, (0 : Int), r1.2.2.2.2.2, r1.1, r1.2.1, r1.2.2.1, r1.2.2.2.1, r1.2.2.2.2.1)) else none else none else bif (r2 != (0 : Int)) then some (r1.1, r1.2.1, r1.2.2.1, r1.2.2.2.1, r1.2.2.2.2.1, r1.2.2.2.2.2, r2) else Option.bind (zj (x.1, x.2.1, x.2.2.1, x.2.2.2.1, x.2.2.2.2.1, x.2.2.2.2.2.1, x.2.2.2.2.2.2.1)) fun r14 => if (0 : Int) ≤ r14 then if r14 < (List.length x.2.2.2.2.1 : Int) then wj (fun x19 => if (0 : Int) ≤ x19.2.1 then if x19.2.1 < (List.length x19.2.2.2.2.2.2.2.2.2.2.2.2.2.2.2 : Int) then Option.bind (yO (x19.2.2.2.1, x19.2.2.2.2.1, x19.2.2.2.2.2.1, x19.2.2.2.2.2.2.1, x19.2.2.2.2.2.2.2.1, x19.2.2.2.2.2.2.2.2.1, x19.2.2.2.2.2.2.2.2.2.2.2.1, x19.2.2.2.2.2.2.2.2.2.2.2.2.1, x19.2.2.2.2.2.2.2.2.2.2.2.2.2.1, x19.2.2.2.2.2.2.2.2.2.2.2.2.2.2.1, (List.set x19.2.2.2.2.2.2.2.2.2.2.2.2.2.2.2 (Int.toNat x19.2.1) ((yq x19.2.2.2.2.2.2.2.2.2.2.2.2.2.2.2 x19.2.1).1, (yq x19.2.2.2.2.2.2.2.2.2.2.2.2.2.2.2 x19.2.1).2.1, x19.1, (yq x19.2.2.2.2.2.2.2.2.2.2.2.2.2.2.2 x19.2.1).2.2.2)), x19.2.2.2.2.2.2.2.2.2.2.1, x19.2.2.1)) fun r20 => some r20 else none else none) (fun x21 => if (0 : Int) ≤ x21.2.1 then if x21.2.1 < (List.length x21.2.2.2.2.2.2.2.2.2.2.2.2.2.2.2 : Int) then Option.bind (yO (x21.2.2.2.1, x21.2.2.2.2.1, x21.2.2.2.2.2.1, x21.2.2.2.2.2.2.1, x21.2.2.2.2.2.2.2.1, x21.2.2.2.2.2.2.2.2.1, x21.2.2.2.2.2.2.2.2.2.2.1, x21.2.2.2.2.2.2.2.2.2.2.2.1, x21.2.2.2.2.2.2.2.2.2.2.2.2.1, x21.2.2.2.2.2.2.2.2.2.2.2.2.2.2.1, (List.set x21.2.2.2.2.2.2.2.2.2.2.2.2.2.2.2 (Int.toNat x21.2.1) ((yq x21.2.2.2.2.2.2.2.2.2.2.2.2.2.2.2 x21.2.1).1, (yq x21.2.2.2.2.2.2.2.2.2.2.2.2.2.2.2 x21.2.1).2.1, x21.1, (yq x21.2.2.2.2.2.2.2.2.2.2.2.2.2.2.2 x21.2.1).2.2.2)), x21.2.2.2.2.2.2.2.2.2.2.2.2.2.1, x21.2.2.1)) fun r22 => some r22 else none else none) (Sum.inl (x.2.2.2.2.2.2.2, r14, true, (Go.IntKind.wrap .i64 ((yq x.2.2.2.2.1 r14).2.2.1 - (1 : Int))), x.1, x.2.1, x.2.2.1, x.2.2.2.1, x.2.2.2.2.1, x.2.2.2.2.2.1, (0 : Int), r1.2.2.2.2.2, r1.1, r1.2.1, r1.2.2.1, r1.2.2.2.1, r1.2.2.2.2.1)) else none else none
def yqg : List QF := [q94, q96, ygQ, ykQ, yuJ, yzi]
def y2m (t : yle) : St := ⟨dd 2 (vI t.1 :: .box 3 0 :: dd 2 (.box 6 0 :: .dead :: .box 8 0 :: .dead :: vI t.2.1 :: vB t.2.2.1 :: vI t.2.2.2.1 :: dd 49 [])), [(3, .box [z7 t.2.2.2.2.1, yu t.2.2.2.2.2.1, zk t.2.2.2.2.2.2.1, yN t.2.2.2.2.2.2.2.1, Y3 t.2.2.2.2.2.2.2.2.1, vI t.2.2.2.2.2.2.2.2.2.1]), (6, .box [.nils, .nils, .nils, .nils, .nils, vI t.2.2.2.2.2.2.2.2.2.2.1]), (8, .box [.own 10000000, .own 10000001, .own 10000002, .own 10000003, .own 10000004, vI t.2.2.2.2.2.2.2.2.2.2.2.1]), (10000000, .root true 3 yi t.2.2.2.2.2.2.2.2.2.2.2.2.1), (10000001, .root true 140 yh t.2.2.2.2.2.2.2.2.2.2.2.2.2.1), (10000002, .root true 146 yo t.2.2.2.2.2.2.2.2.2.2.2.2.2.2.1), (10000003, .root true 113 ye t.2.2.2.2.2.2.2.2.2.2.2.2.2.2.2.1), (10000004, .root true 46 yx t.2.2.2.2.2.2.2.2.2.2.2.2.2.2.2.2)]⟩
theorem yeK : ∀ s t, unG yyh y2m s = some t → y2m t = s := yr fun t => by kernel_rfl
def y2n (t : ylf) : St := ⟨dd 2 (vI t.1 :: .box 3 0 :: dd 2 (.box 6 0 :: .dead :: .box 8 0 :: .dead :: vI t.2.1 :: vB t.2.2.1 :: vI t.2.2.2.1 :: dd 49 [])), [(3, .box [z7 t.2.2.2.2.1, yu t.2.2.2.2.2.1, zk t.2.2.2.2.2.2.1, yN t.2.2.2.2.2.2.2.1, Y3 t.2.2.2.2.2.2.2.2.1, vI t.2.2.2.2.2.2.2.2.2.1]), (6, .box [.nils, .nils, .nils, .nils, .nils, vI t.2.2.2.2.2.2.2.2.2.2.1]), (8, .box [z7 t.2.2.2.2.2.2.2.2.2.2.2.1, yu t.2.2.2.2.2.2.2.2.2.2.2.2.1, zk t.2.2.2.2.2.2.2.2.2.2.2.2.2.1, .own 10000000, .own 10000001, vI t.2.2.2.2.2.2.2.2.2.2.2.2.2.2.1]), (10000000, .root true 113 ye t.2.2.2.2.2.2.2.2.2.2.2.2.2.2.2.1), (10000001, .root true 46 yx t.2.2.2.2.2.2.2.2.2.2.2.2.2.2.2.2)]⟩
theorem yeL : ∀ s t, unG yyi y2n s = some t → y2n t = s := yr fun t => by kernel_rfl
def y2o : (yle ⊕ ylf) → St := Sum.elim y2m y2n
def y66 (s : St) : Option (yle ⊕ ylf) := ((unG yyh y2m s).map Sum.inl).or (((unG yyi y2n) s).map Sum.inr)
theorem yeM : ∀ s t, y66 s = some t → y2o t = s := y3h yeK yeL
def yaw : Gk wi := fun κ => j7 (fun t => κ (some 0) ⟨dd 2 (vI t.1 :: .box 3 0 :: dd 2 (.box 6 0 :: .dead :: .box 8 0 :: .dead :: vI t.2.1 :: vB t.2.2.1 :: dd 50 [])), [(3, .box [z7 t.2.2.2.1, yu t.2.2.2.2.1, zk t.2.2.2.2.2.1, yN t.2.2.2.2.2.2.1, Y3 t.2.2.2.2.2.2.2.1, vI t.2.2.2.2.2.2.2.2.1]), (6, .box [.nils, .nils, .nils, .nils, .nils, vI t.2.2.2.2.2.2.2.2.2.1]), (8, .box [.own 10000000, .own 10000001, .own 10000002, .own 10000003, .own 10000004, vI t.2.2.2.2.2.2.2.2.2.2.1]), (10000000, .root true 3 yi t.2.2.2.2.2.2.2.2.2.2.2.1), (10000001, .root true 140 yh t.2.2.2.2.2.2.2.2.2.2.2.2.1), (10000002, .root true 146 yo t.2.2.2.2.2.2.2.2.2.2.2.2.2.1), (10000003, .root true 113 ye t.2.2.2.2.2.2.2.2.2.2.2.2.2.2.1), (10000004, .root true 46 yx t.2.2.2.2.2.2.2.2.2.2.2.2.2.2.2)]⟩) (fun t => κ (some 0) ⟨dd 2 (vI t.1 :: .box 3 0 :: dd 2 (.box 6 0 :: .dead :: .box 8 0 :: .dead :: vI t.2.1 :: vB t.2.2.1 :: dd 50 [])), [(3, .box [z7 t.2.2.2.1, yu t.2.2.2.2.1, zk t.2.2.2.2.2.1, yN t.2.2.2.2.2.2.1, Y3 t.2.2.2.2.2.2.2.1, vI t.2.2.2.2.2.2.2.2.1]), (6, .box [.nils, .nils, .nils, .nils, .nils, vI t.2.2.2.2.2.2.2.2.2.1]), (8, .box [z7 t.2.2.2.2.2.2.2.2.2.2.1, yu t.2.2.2.2.2.2.2.2.2.2.2.1, zk t.2.2.2.2.2.2.2.2.2.2.2.2.1, .own 10000000, .own 10000001, vI t.2.2.2.2.2.2.2.2.2.2.2.2.2.1]), (10000000, .root true 113 ye t.2.2.2.2.2.2.2.2.2.2.2.2.2.2.1), (10000001, .root true 46 yx t.2.2.2.2.2.2.2.2.2.2.2.2.2.2.2)]⟩)
def yqh : Lp := lpC 10 y66 @yaw lpN
theorem yeN : LF yqg yqh 73 10 Tryz.f73 0 y2o @yaw fun v : yle => .inl v := fun R κ again v => by kernel_rfl
theorem yeO : LF yqg yqh 73 10 Tryz.f73 0 y2o @yaw fun v : ylf => .inr v := fun R κ again v => by kernel_rfl
theorem yqi : LF yqg yqh 73 10 Tryz.f73 0 y2o @yaw fun t => t := (LC.sum yeN yeO)
theorem yqj : LK yqg yqh 73 Tryz.f73 0 := lkN (u := y66) yeM yqi
theorem yAx : EV yqg yqh 73 Tryz.f73 yyy ysi y7d Jr := fun x => by kernel_rfl
def q73 : QF := ⟨73, Jr, okN (n := 1) Tryz.func73 ⟨yqj, trivial⟩ yAx⟩
def Yv (x : yyj) : Option Bool :=
 bif (x.1 == (2 : Int)) then Option.bind (bif (x.2.2.2.1 == (0 : Int)) then Option.bind (yz (x.2.2.2.2, (0 : Int), (1 : Int))) fun r2 => some r2 else some false) fun u1 => some u1 else bif (x.1 == (3 : Int)) then bif (x.1 == (3 : Int)) then Option.bind (bif (x.2.2.2.1 == (0 : Int)) then some (x.2.2.2.2 == (0 : Int)) else some false) fun u3 => some u3 else bif (x.1 == (4 : Int)) then some true else some (x.2.2.2.2 == (0 : Int)) else bif (x.1 == (7 : Int)) then Option.bind (bif (x.2.2.2.1 == (0 : Int)) then some (x.2.2.2.2 == (0 : Int)) else some false) fun u4 => some u4 else bif (x.1 == (4 : Int)) then some true else some (x.2.2.2.2 == (0 : Int))
theorem yv6 : EV [q96] lpN 346 Tryz.f346 ynM yi5 [.bool] Yv := fun x => by kernel_rfl
def yAy : QF := ⟨346, Yv, okN (n := 0) Tryz.func346 trivial yv6⟩
def KR (x : yyj) : Option Bool :=
 Option.bind (Ya x.2.1) fun r1 => bif (decide (x.1 ≥ (7 : Int))) then bif (x.1 == (2 : Int)) then Option.bind (Ya x.2.2.1) fun r2 => Option.bind (yz (x.1, (1 : Int), (9 : Int))) fun r3 => Option.bind (bif r3 then some ((ByteArray.toList x.2.1) == (ByteArray.toList ({ data := #[] }))) else some false) fun u4 => Option.bind (bif u4 then some r2 else some false) fun u5 => Option.bind (bif u5 then Option.bind (zm x.2.2.2.1) fun r7 => some r7 else some false) fun u6 => Option.bind (bif u6 then Option.bind (zm x.2.2.2.2) fun r9 => some r9 else some false) fun u8 => Option.bind (bif u8 then Option.bind (Yv x) fun r11 => some r11 else some false) fun u10 => some u10 else Option.bind (yz (x.1, (1 : Int), (9 : Int))) fun r12 => Option.bind (bif r12 then some ((ByteArray.toList x.2.1) == (ByteArray.toList ({ data := #[] }))) else some false) fun u13 => Option.bind (bif u13 then some ((ByteArray.toList x.2.2.1) == (ByteArray.toList ({ data := #[] }))) else some false) fun u14 => Option.bind (bif u14 then Option.bind (zm x.2.2.2.1) fun r16 => some r16 else some false) fun u15 => Option.bind (bif u15 then Option.bind (zm x.2.2.2.2) fun r18 => some r18 else some false) fun u17 => Option.bind (bif u17 then Option.bind (Yv x) fun r20 => some r20 else some false) fun u19 => some u19 else bif (x.1 == (2 : Int)) then Option.bind (Ya x.2.2.1) fun r21 => Option.bind (yz (x.1, (1 : Int), (9 : Int))) fun r22 => Option.bind (bif r22 then some r1 else some false) fun u23 => Option.bind (bif u23 then some r21 else some false) fun u24 => Option.bind (bif u24 then Option.bind (zm x.2.2.2.1) fun r26 => some r26 else some false) fun u25 => Option.bind (bif u25 then Option.bind (zm x.2.2.2.2) fun r28 => some r28 else some false) fun u27 => Option.bind (bif u27 then Option.bind (Yv x) fun r30 => some r30 else some false) fun u29 => some u29 else Option.bind (yz (x.1, (1 : Int), (9 : Int))) fun r31 => Option.bind (bif r31 then some r1 else some false) fun u32 => Option.bind (bif u32 then some ((ByteArray.toList x.2.2.1) == (ByteArray.toList ({ data := #[] }))) else some false) fun u33 => Option.bind (bif u33 then Option.bind (zm x.2.2.2.1) fun r35 => some r35 else some false) fun u34 => Option.bind (bif u34 then Option.bind (zm x.2.2.2.2) fun r37 => some r37 else some false) fun u36 => Option.bind (bif u36 then Option.bind (Yv x) fun r39 => some r39 else some false) fun u38 => some u38
theorem yv7 : EV [q96, ysn, ysm, yAy] lpN 314 Tryz.f314 ynN yi5 [.bool] KR := fun x => by kernel_rfl
def yAz : QF := ⟨314, KR, okN (n := 0) Tryz.func314 trivial yv7⟩
def jQ (x : List yb) : Option (List yb) :=
 Option.bind (yA x) fun r1 => Option.bind (yR r1) fun r2 => some r2
theorem yv8 : EV [yik, yso] lpN 217 Tryz.f217 ynO [(.sl 58 yn)] [(.sl 58 yn)] jQ := fun x => by kernel_rfl
def yAA : QF := ⟨217, jQ, okN (n := 0) Tryz.func217 trivial yv8⟩
def Zl (x : ylc) : Option Qz8 :=
 Option.bind (YQ (x.1, x.2.1)) fun r1 => Option.bind (yz (x.2.2, (0 : Int), (Go.IntKind.wrap .i64 ((List.length x.2.1 : Int) - (1 : Int))))) fun r2 => bif r2 then if (0 : Int) ≤ x.2.2 then if x.2.2 < (List.length x.2.1 : Int) then Option.bind (jQ (yg x.2.1 x.2.2)) fun r3 => if (0 : Int) ≤ x.2.2 then if x.2.2 < (List.length r1.2 : Int) then some (r1.1, (List.set r1.2 (Int.toNat x.2.2) r3)) else none else none else none else none else some r1
theorem yAB : EV [q96, ytX, yAA] lpN 97 Tryz.f97 yyz yld qz8 Zl := fun x => by kernel_rfl
def q97 : QF := ⟨97, Zl, okN (n := 0) Tryz.func97 trivial yAB⟩
def zI (x : y7c) : Option ykN :=
 Option.bind (yl (x.1, x.2.1, x.2.2.1, x.2.2.2.1, x.2.2.2.2.1, x.2.2.2.2.2.1)) fun r1 => Option.bind (yE (x.1, x.2.1, x.2.2.1, x.2.2.2.1, x.2.2.2.2.1, x.2.2.2.2.2.1)) fun r2 => Option.bind (bif (!r2) then some true else Option.bind (yz (x.2.2.2.2.2.2, (0 : Int), (Go.IntKind.wrap .i64 ((List.length x.2.1 : Int) - (1 : Int))))) fun r4 => some (!r4)) fun u3 => bif u3 then some (r1.1, r1.2.1, r1.2.2.1, r1.2.2.2.1, r1.2.2.2.2.1, r1.2.2.2.2.2, false) else Option.bind (Zl (x.1, x.2.1, x.2.2.2.2.2.2)) fun r5 => some (r5.1, r5.2, r1.2.2.1, r1.2.2.2.1, r1.2.2.2.2.1, r1.2.2.2.2.2, true)
theorem yAC : EV [q94, q95, q96, q97] lpN 12 Tryz.f12 yyA y7d ykO zI := fun x => by kernel_rfl
def q12 : QF := ⟨12, zI, okN (n := 0) Tryz.func12 trivial yAC⟩
abbrev W7 : Type := yyk
def YB (k0 : yes → Option R) (k1 : yes → Option R) (again : W7 → Option R) (t3 : W7) : Option R :=
 bif (decide (t3.2.1 < (List.length t3.2.2.2.2.2.2.2 : Int))) then if (0 : Int) ≤ t3.2.1 then if t3.2.1 < (List.length t3.2.2.2.2.2.2.2 : Int) then Option.bind (bif ((y8 t3.2.2.2.2.2.2.2 t3.2.1).2.2.1 == (1 : Int)) then if (0 : Int) ≤ t3.2.1 then if t3.2.1 < (List.length t3.2.2.2.2.2.2.2 : Int) then some ((y8 t3.2.2.2.2.2.2.2 t3.2.1).2.2.2.1 == t3.1) else none else none else some false) fun u2 => bif u2 then if (0 : Int) ≤ t3.2.1 then if t3.2.1 < (List.length t3.2.2.2.2.2.2.2 : Int) then k0 ((y8 t3.2.2.2.2.2.2.2 t3.2.1).1, (y8 t3.2.2.2.2.2.2.2 t3.2.1).2.1, (y8 t3.2.2.2.2.2.2.2 t3.2.1).2.2.1, (y8 t3.2.2.2.2.2.2.2 t3.2.1).2.2.2.1, (y8 t3.2.2.2.2.2.2.2 t3.2.1).2.2.2.2) else none else none else again (t3.1, (Go.IntKind.wrap .i64 (t3.2.1 + (1 : Int))), t3.2.2.1, t3.2.2.2.1, t3.2.2.2.2.1, t3.2.2.2.2.2.1, t3.2.2.2.2.2.2.1, t3.2.2.2.2.2.2.2) else none else none else k1 (t3.2.2.1, t3.2.2.2.1, t3.2.2.2.2.1, t3.2.2.2.2.2.1, t3.2.2.2.2.2.2.1)
def KS k0 k1 := zE (@YB R k0 k1) zW
def ZQ (x : y7c) : Option yes :=
 Option.bind (yG (x.1, x.2.1)) fun r1 => KS (fun x3 => some x3) (fun x4 => some ((0 : Int), (0 : Int), (0 : Int), (0 : Int), (0 : Int))) (x.2.2.2.2.2.2, (0 : Int), (0 : Int), (0 : Int), (0 : Int), (0 : Int), (0 : Int), r1)
def yjc : List QF := [yin]
def y67 (t : yyk) : St := ⟨.dead :: vI t.1 :: dd 2 (.box 4 0 :: .own 10000000 :: vI t.2.1 :: dd 29 []), [(4, .box [vI t.2.2.1, vI t.2.2.2.1, vI t.2.2.2.2.1, vI t.2.2.2.2.2.1, vI t.2.2.2.2.2.2.1]), (10000000, .root true 64 yk t.2.2.2.2.2.2.2)]⟩
def yh3 : Gk W7 := fun κ => YB (fun t => κ none ⟨dd 4 (.box 4 0 :: dd 31 []), [(4, .box [vI t.1, vI t.2.1, vI t.2.2.1, vI t.2.2.2.1, vI t.2.2.2.2])]⟩) (fun t => κ (some 0) ⟨dd 4 (.box 4 0 :: dd 31 []), [(4, .box [vI t.1, vI t.2.1, vI t.2.2.1, vI t.2.2.2.1, vI t.2.2.2.2])]⟩)
def yjd : Lp := lpC 3 (unG yyl y67) @yh3 lpN
theorem yqk : LF yjc yjd 102 3 Tryz.f102 0 y67 @yh3 fun t => t := fun R κ again t => by kernel_rfl
theorem yql : LK yjc yjd 102 Tryz.f102 0 := lkN (u := (unG yyl y67)) (yr fun t => by kernel_rfl) yqk
theorem yv9 : EV yjc yjd 102 Tryz.f102 ynP y7d VA ZQ := fun x => by kernel_rfl
def yAD : QF := ⟨102, ZQ, okN (n := 1) Tryz.func102 ⟨yql, trivial⟩ yv9⟩
def zs (x : y7c) : Option ykN :=
 Option.bind (yl (x.1, x.2.1, x.2.2.1, x.2.2.2.1, x.2.2.2.2.1, x.2.2.2.2.2.1)) fun r1 => Option.bind (yE (x.1, x.2.1, x.2.2.1, x.2.2.2.1, x.2.2.2.2.1, x.2.2.2.2.2.1)) fun r2 => Option.bind (bif (!r2) then some true else Option.bind (yz (x.2.2.2.2.2.2, (0 : Int), (Go.IntKind.wrap .i64 ((List.length x.2.2.2.1 : Int) - (1 : Int))))) fun r4 => some (!r4)) fun u3 => Option.bind (bif u3 then some true else if (0 : Int) ≤ x.2.2.2.2.2.2 then if x.2.2.2.2.2.2 < (List.length x.2.2.2.1 : Int) then some (!((yj x.2.2.2.1 x.2.2.2.2.2.2).2.1)) else none else none) fun u5 => bif u5 then some (r1.1, r1.2.1, r1.2.2.1, r1.2.2.2.1, r1.2.2.2.2.1, r1.2.2.2.2.2, false) else Option.bind (ZQ x) fun r6 => if (0 : Int) ≤ x.2.2.2.2.2.2 then if x.2.2.2.2.2.2 < (List.length x.2.2.2.1 : Int) then Option.bind (zG (x.2.2.2.1, (yj x.2.2.2.1 x.2.2.2.2.2.2).2.2)) fun r7 => Option.bind (bif (!r7.2.2) then some true else some (decide (r7.2.1 > x.2.2.2.2.2.2))) fun u8 => bif u8 then some (r1.1, r1.2.1, r1.2.2.1, r1.2.2.2.1, r1.2.2.2.2.1, r1.2.2.2.2.2, false) else if (0 : Int) ≤ r7.2.1 then if r7.2.1 < (List.length r7.1 : Int) then Option.bind (zH (x.1, x.2.1, r6.1, r6.2.1, r6.2.2.1, r7.2.1, (yj r7.1 r7.2.1).1)) fun r9 => Option.bind (YA (r7.1, x.2.2.2.2.2.2)) fun r10 => Option.bind (bif (!r9.2.2) then some true else Option.bind (yE (r9.1, r9.2.1, r1.2.2.1, r10, r1.2.2.2.2)) fun r12 => some (!r12)) fun u11 => bif u11 then Option.bind (yl (x.1, x.2.1, x.2.2.1, x.2.2.2.1, x.2.2.2.2.1, x.2.2.2.2.2.1)) fun r13 => some (r13.1, r13.2.1, r13.2.2.1, r13.2.2.2.1, r13.2.2.2.2.1, r13.2.2.2.2.2, false) else some (r9.1, r9.2.1, r1.2.2.1, r10, r1.2.2.2.2.1, r1.2.2.2.2.2, true) else none else none else none else none
theorem yAE : EV [q94, q95, q96, yAD, yuH, ysp, yuW] lpN 15 Tryz.f15 yyB y7d ykO zs := fun x => by kernel_rfl
def q15 : QF := ⟨15, zs, okN (n := 0) Tryz.func15 trivial yAE⟩
def KT (x : yyf) : Option yi3 :=
 Option.bind (Jq (x.2.2.1, x.2.2.2.2)) fun r1 => Option.bind (ZP (x.1, x.2.1, x.2.2.2.1, r1)) fun r2 => some r2
theorem yva : EV [yzf, yzg] lpN 265 Tryz.f265 ynQ yyg yi4 KT := fun x => by kernel_rfl
def yAF : QF := ⟨265, KT, okN (n := 0) Tryz.func265 trivial yva⟩
def KU (x : yA0) : Option Bool :=
 Option.bind (KT (x.1, x.2.1, x.2.2.1, x.2.2.2.1, x.2.2.2.2.2.2.2.2)) fun r1 => Option.bind (bif r1.2.2.2.2.2 then some (r1.2.1 == x.2.2.2.2.1) else some false) fun u2 => some u2
theorem yvb : EV [yAF] lpN 149 Tryz.f149 ynR yA1 [.bool] KU := fun x => by kernel_rfl
def yAG : QF := ⟨149, KU, okN (n := 0) Tryz.func149 trivial yvb⟩
abbrev W8 : Type := yym
def YV (k0 : Bool → Option R) (k1 : Unit → Option R) (again : W8 → Option R) (t2 : W8) : Option R :=
 bif (decide (t2.1 < (List.length t2.2.2.2.2.2.1 : Int))) then if (0 : Int) ≤ t2.1 then if t2.1 < (List.length t2.2.2.2.2.2.1 : Int) then Option.bind (bif (decide ((yq t2.2.2.2.2.2.1 t2.1).2.2.1 > t2.2.2.2.2.2.2.2.1)) then if (0 : Int) ≤ t2.1 then if t2.1 < (List.length t2.2.2.2.2.2.1 : Int) then Option.bind (KU (t2.2.1, t2.2.2.1, t2.2.2.2.1, t2.2.2.2.2.2.2.2.1, t2.2.2.2.2.2.2.2.2.1, t2.2.2.2.2.2.2.2.2.2.1, t2.2.2.2.2.2.2.2.2.2.2.1, t2.2.2.2.2.2.2.2.2.2.2.2, (yq t2.2.2.2.2.2.1 t2.1).2.1)) fun r2 => some r2 else none else none else some false) fun u1 => bif u1 then k0 true else again ((Go.IntKind.wrap .i64 (t2.1 + (1 : Int))), t2.2.1, t2.2.2.1, t2.2.2.2.1, t2.2.2.2.2.1, t2.2.2.2.2.2.1, t2.2.2.2.2.2.2.1, t2.2.2.2.2.2.2.2.1, t2.2.2.2.2.2.2.2.2.1, t2.2.2.2.2.2.2.2.2.2.1, t2.2.2.2.2.2.2.2.2.2.2.1, t2.2.2.2.2.2.2.2.2.2.2.2) else none else none else k1 ()
def vJ k0 k1 := zE (@YV R k0 k1) zW
def j8 (x : ysj) : Option Bool :=
 vJ (fun x3 => some x3) (fun x4 => some false) ((0 : Int), x.1, x.2.1, x.2.2.1, x.2.2.2.1, x.2.2.2.2.1, x.2.2.2.2.2.1, x.2.2.2.2.2.2.1, x.2.2.2.2.2.2.2.1, x.2.2.2.2.2.2.2.2.1, x.2.2.2.2.2.2.2.2.2.1, x.2.2.2.2.2.2.2.2.2.2)
def yvc : List QF := [yAG]
def y9m (t : yym) : St := ⟨dd 2 (.box 2 0 :: .box 3 0 :: .dead :: vI t.1 :: dd 30 []), [(2, .box [z7 t.2.1, yu t.2.2.1, zk t.2.2.2.1, yN t.2.2.2.2.1, Y3 t.2.2.2.2.2.1, vI t.2.2.2.2.2.2.1]), (3, .box [vI t.2.2.2.2.2.2.2.1, vI t.2.2.2.2.2.2.2.2.1, vI t.2.2.2.2.2.2.2.2.2.1, vI t.2.2.2.2.2.2.2.2.2.2.1, vI t.2.2.2.2.2.2.2.2.2.2.2])]⟩
def yqm : Gk W8 := fun κ => YV (fun t => κ none ⟨dd 4 (vB t :: dd 31 []), []⟩) (fun t => κ (some 0) ⟨dd 36 [], []⟩)
def yvd : Lp := lpC 2 (unG yyn y9m) @yqm lpN
theorem yve : LF yvc yvd 41 2 Tryz.f41 0 y9m @yqm fun t => t := fun R κ again t => by kernel_rfl
theorem yvf : LK yvc yvd 41 Tryz.f41 0 := lkN (u := (unG yyn y9m)) (yr fun t => by kernel_rfl) yve
theorem yAH : EV yvc yvd 41 Tryz.f41 yyC ysk [.bool] j8 := fun x => by kernel_rfl
def q41 : QF := ⟨41, j8, okN (n := 1) Tryz.func41 ⟨yvf, trivial⟩ yAH⟩
abbrev VQ : Type := yt1
def W9 (k0 : Bool → Option R) (k1 : Unit → Option R) (again : VQ → Option R) (t2 : VQ) : Option R :=
 bif (decide (t2.2.1 < (List.length t2.2.2.2.2.2.2.1 : Int))) then if (0 : Int) ≤ t2.2.1 then if t2.2.1 < (List.length t2.2.2.2.2.2.2.1 : Int) then bif ((yq t2.2.2.2.2.2.2.1 t2.2.1).2.1 == t2.1) then k0 false else again (t2.1, (Go.IntKind.wrap .i64 (t2.2.1 + (1 : Int))), t2.2.2.1, t2.2.2.2.1, t2.2.2.2.2.1, t2.2.2.2.2.2.1, t2.2.2.2.2.2.2.1, t2.2.2.2.2.2.2.2) else none else none else k1 ()
def y0K k0 k1 := zE (@W9 R k0 k1) zW
def k6 (x : y7c) : Option Bool :=
 y0K (fun x1 => some x1) (fun x2 => some true) (x.2.2.2.2.2.2, (0 : Int), x.1, x.2.1, x.2.2.1, x.2.2.2.1, x.2.2.2.2.1, x.2.2.2.2.2.1)
def yje : List QF := []
def y68 (t : yt1) : St := ⟨.dead :: vI t.1 :: .box 2 0 :: dd 2 (vI t.2.1 :: dd 15 []), [(2, .box [z7 t.2.2.1, yu t.2.2.2.1, zk t.2.2.2.2.1, yN t.2.2.2.2.2.1, Y3 t.2.2.2.2.2.2.1, vI t.2.2.2.2.2.2.2])]⟩
def yh4 : Gk VQ := fun κ => W9 (fun t => κ none ⟨dd 4 (vB t :: dd 16 []), []⟩) (fun t => κ (some 0) ⟨dd 21 [], []⟩)
def yjf : Lp := lpC 2 (unG yyo y68) @yh4 lpN
theorem yqn : LF yje yjf 259 2 Tryz.f259 0 y68 @yh4 fun t => t := fun R κ again t => by kernel_rfl
theorem yqo : LK yje yjf 259 Tryz.f259 0 := lkN (u := (unG yyo y68)) (yr fun t => by kernel_rfl) yqn
theorem yvg : EV yje yjf 259 Tryz.f259 ynS y7d [.bool] k6 := fun x => by kernel_rfl
def yzj : QF := ⟨259, k6, okN (n := 1) Tryz.func259 ⟨yqo, trivial⟩ yvg⟩
def YW (x : y7c) : Option Int :=
 Option.bind (ZM (x.2.2.1, x.2.2.2.2.2.2)) fun r1 => Option.bind (k6 x) fun r2 => Option.bind (bif (!r2) then some true else some ((List.length r1 : Int) != (1 : Int))) fun u3 => bif u3 then some (0 : Int) else if (0 : Int) ≤ (0 : Int) then if (0 : Int) < (List.length r1 : Int) then some (zC r1 (0 : Int)) else none else none
theorem yvh : EV [yzj, yup] lpN 142 Tryz.f142 ynT y7d [(.int .i64)] YW := fun x => by kernel_rfl
def yzk : QF := ⟨142, YW, okN (n := 0) Tryz.func142 trivial yvh⟩
def kz (x : ysj) : Option Bool :=
 Option.bind (YW (x.1, x.2.1, x.2.2.1, x.2.2.2.1, x.2.2.2.2.1, x.2.2.2.2.2.1, x.2.2.2.2.2.2.2.1)) fun r1 => bif (r1 == (0 : Int)) then some false else Option.bind (ZO (x.1, x.2.1, x.2.2.2.2.2.2.1, r1)) fun r2 => some (!r2.2.2.2.2.2)
theorem yvi : EV [yzk, yuU] lpN 258 Tryz.f258 ynU ysk [.bool] kz := fun x => by kernel_rfl
def yAI : QF := ⟨258, kz, okN (n := 0) Tryz.func258 trivial yvi⟩
def Wa (x : yt2) : Option Bool :=
 bif (x.2.2.2.2.2.2.1 == (1 : Int)) then Option.bind (j8 (x.1, x.2.1, x.2.2.1, x.2.2.2.1, x.2.2.2.2.1, x.2.2.2.2.2.1, x.2.2.2.2.2.2.2)) fun r1 => some (!r1) else bif (x.2.2.2.2.2.2.1 == (2 : Int)) then Option.bind (YM (x.1, x.2.1, x.2.2.1, x.2.2.2.2.2.2.2.1, x.2.2.2.2.2.2.2.2.1)) fun r2 => Option.bind (bif (x.2.2.2.2.2.2.2.2.2.1 == (2 : Int)) then some (!r2.2.2.2.2.2) else some false) fun u3 => some u3 else Option.bind (kz (x.1, x.2.1, x.2.2.1, x.2.2.2.1, x.2.2.2.2.1, x.2.2.2.2.2.1, x.2.2.2.2.2.2.2)) fun r4 => some r4
theorem yvj : EV [q41, yzh, yAI] lpN 138 Tryz.f138 ynV yt3 [.bool] Wa := fun x => by kernel_rfl
def yAJ : QF := ⟨138, Wa, okN (n := 0) Tryz.func138 trivial yvj⟩
abbrev KV : Type := yi2
def jR (k0 : yt4 → Option R) (k1 : ybB → Option R) (again : KV → Option R) (t3 : KV) : Option R :=
 bif (decide (t3.2.1 < (List.length t3.2.2.2.2.2.2.2.2 : Int))) then if (0 : Int) ≤ t3.2.1 then if t3.2.1 < (List.length t3.2.2.2.2.2.2.2.2 : Int) then bif ((y8 t3.2.2.2.2.2.2.2.2 t3.2.1).2.1 == t3.1) then k0 (t3.1, false, t3.2.2.1, t3.2.2.2.1, t3.2.2.2.2.1, t3.2.2.2.2.2.1, t3.2.2.2.2.2.2.1, t3.2.2.2.2.2.2.2.1) else again (t3.1, (Go.IntKind.wrap .i64 (t3.2.1 + (1 : Int))), t3.2.2.1, t3.2.2.2.1, t3.2.2.2.2.1, t3.2.2.2.2.2.1, t3.2.2.2.2.2.2.1, t3.2.2.2.2.2.2.2.1, t3.2.2.2.2.2.2.2.2) else none else none else k1 (t3.1, t3.2.2.1, t3.2.2.2.1, t3.2.2.2.2.1, t3.2.2.2.2.2.1, t3.2.2.2.2.2.2.1, t3.2.2.2.2.2.2.2.1)
def Q3 k0 k1 := zE (@jR R k0 k1) zW
def Wb (x : y7c) : Option Bool :=
 Option.bind (yG (x.1, x.2.1)) fun r1 => Q3 (fun x2 => some x2.2.1) (fun x3 => Option.bind (k6 (x3.2.1, x3.2.2.1, x3.2.2.2.1, x3.2.2.2.2.1, x3.2.2.2.2.2.1, x3.2.2.2.2.2.2, x3.1)) fun r4 => Option.bind (bif r4 then Option.bind (ZM (x3.2.2.2.1, x3.1)) fun r6 => some (decide ((List.length r6 : Int) ≤ (1 : Int))) else some false) fun u5 => some u5) (x.2.2.2.2.2.2, (0 : Int), x.1, x.2.1, x.2.2.1, x.2.2.2.1, x.2.2.2.2.1, x.2.2.2.2.2.1, r1)
def yjg : List QF := [yin, yzj, yup]
def y69 (t : yi2) : St := ⟨.dead :: vI t.1 :: .box 2 0 :: dd 2 (.own 10000000 :: vI t.2.1 :: dd 27 []), [(2, .box [z7 t.2.2.1, yu t.2.2.2.1, zk t.2.2.2.2.1, yN t.2.2.2.2.2.1, Y3 t.2.2.2.2.2.2.1, vI t.2.2.2.2.2.2.2.1]), (10000000, .root true 64 yk t.2.2.2.2.2.2.2.2)]⟩
def yh5 : Gk KV := fun κ => jR (fun t => κ none ⟨.dead :: vI t.1 :: .box 2 0 :: .dead :: vB t.2.1 :: dd 29 [], [(2, .box [z7 t.2.2.1, yu t.2.2.2.1, zk t.2.2.2.2.1, yN t.2.2.2.2.2.1, Y3 t.2.2.2.2.2.2.1, vI t.2.2.2.2.2.2.2])]⟩) (fun t => κ (some 0) ⟨.dead :: vI t.1 :: .box 2 0 :: dd 31 [], [(2, .box [z7 t.2.1, yu t.2.2.1, zk t.2.2.2.1, yN t.2.2.2.2.1, Y3 t.2.2.2.2.2.1, vI t.2.2.2.2.2.2])]⟩)
def yjh : Lp := lpC 3 (unG ykL y69) @yh5 lpN
theorem yqp : LF yjg yjh 139 3 Tryz.f139 0 y69 @yh5 fun t => t := fun R κ again t => by kernel_rfl
theorem yqq : LK yjg yjh 139 Tryz.f139 0 := lkN (u := (unG ykL y69)) (yr fun t => by kernel_rfl) yqp
theorem yvk : EV yjg yjh 139 Tryz.f139 ynW y7d [.bool] Wb := fun x => by kernel_rfl
def yAK : QF := ⟨139, Wb, okN (n := 1) Tryz.func139 ⟨yqq, trivial⟩ yvk⟩
abbrev k7 : Type := yi2
def Zm (k0 : ysR → Option R) (k1 : yi6 → Option R) (again : k7 → Option R) (t8 : k7) : Option R :=
 bif (decide (t8.2.1 < (List.length t8.2.2.2.2.2.2.2.2 : Int))) then if (0 : Int) ≤ t8.2.1 then if t8.2.1 < (List.length t8.2.2.2.2.2.2.2.2 : Int) then Option.bind (Wa (t8.2.2.1, t8.2.2.2.1, t8.2.2.2.2.1, t8.2.2.2.2.2.1, t8.2.2.2.2.2.2.1, t8.2.2.2.2.2.2.2.1, t8.1, (y8 t8.2.2.2.2.2.2.2.2 t8.2.1).1, (y8 t8.2.2.2.2.2.2.2.2 t8.2.1).2.1, (y8 t8.2.2.2.2.2.2.2.2 t8.2.1).2.2.1, (y8 t8.2.2.2.2.2.2.2.2 t8.2.1).2.2.2.1, (y8 t8.2.2.2.2.2.2.2.2 t8.2.1).2.2.2.2)) fun r3 => bif r3 then k0 (t8.1, t8.2.1, t8.1, t8.2.2) else again (t8.1, (Go.IntKind.wrap .i64 (t8.2.1 + (1 : Int))), t8.2.2.1, t8.2.2.2.1, t8.2.2.2.2.1, t8.2.2.2.2.2.1, t8.2.2.2.2.2.2.1, t8.2.2.2.2.2.2.2.1, t8.2.2.2.2.2.2.2.2) else none else none else k1 (t8.1, t8.2.2)
def Vi k0 k1 := zE (@Zm R k0 k1) zW
abbrev k8 : Type := yi6
def Zn (k0 : yt1 → Option R) (k1 : Qz9 → Option R) (again : k8 → Option R) (t5 : k8) : Option R :=
 bif (decide (t5.1 ≤ (3 : Int))) then Vi (fun x4 => k0 (x4.1, x4.2.1, x4.2.2.2.1, x4.2.2.2.2.1, x4.2.2.2.2.2.1, x4.2.2.2.2.2.2.1, x4.2.2.2.2.2.2.2.1, x4.2.2.2.2.2.2.2.2.1)) (fun x5 => again ((Go.IntKind.wrap .i64 (x5.1 + (1 : Int))), x5.2.1, x5.2.2.1, x5.2.2.2.1, x5.2.2.2.2.1, x5.2.2.2.2.2.1, x5.2.2.2.2.2.2.1, x5.2.2.2.2.2.2.2)) (t5.1, (0 : Int), t5.2.1, t5.2.2.1, t5.2.2.2.1, t5.2.2.2.2.1, t5.2.2.2.2.2.1, t5.2.2.2.2.2.2.1, t5.2.2.2.2.2.2.2) else k1 (t5.2.1, t5.2.2.1, t5.2.2.2.1, t5.2.2.2.2.1, t5.2.2.2.2.2.1, t5.2.2.2.2.2.2.1)
def Vj k0 k1 := zE (@Zn R k0 k1) zW
abbrev Wc : Type := ybB
def YX (k0 : ykI → Option R) (k1 : Unit → Option R) (again : Wc → Option R) (t13 : Wc) : Option R :=
 bif (decide (t13.1 < (List.length t13.2.2.2.1 : Int))) then if (0 : Int) ≤ t13.1 then if t13.1 < (List.length t13.2.2.2.1 : Int) then Option.bind (Wb (t13.2.1, t13.2.2.1, t13.2.2.2.1, t13.2.2.2.2.1, t13.2.2.2.2.2.1, t13.2.2.2.2.2.2, (yK t13.2.2.2.1 t13.1).1)) fun r8 => bif r8 then k0 ((4 : Int), t13.1) else again ((Go.IntKind.wrap .i64 (t13.1 + (1 : Int))), t13.2.1, t13.2.2.1, t13.2.2.2.1, t13.2.2.2.2.1, t13.2.2.2.2.2.1, t13.2.2.2.2.2.2) else none else none else k1 ()
def vK k0 k1 := zE (@YX R k0 k1) zW
def jS (x : Qz9) : Option ykI :=
 Option.bind (yE x) fun r1 => bif (!r1) then some ((0 : Int), (0 : Int)) else Option.bind (yG (x.1, x.2.1)) fun r2 => Vj (fun x6 => some (x6.1, x6.2.1)) (fun x7 => vK (fun x9 => some x9) (fun x10 => some ((0 : Int), (0 : Int))) ((0 : Int), x7.1, x7.2.1, x7.2.2.1, x7.2.2.2.1, x7.2.2.2.2.1, x7.2.2.2.2.2)) ((1 : Int), x.1, x.2.1, x.2.2.1, x.2.2.2.1, x.2.2.2.2.1, x.2.2.2.2.2, r2)
def yji : List QF := [q95, yin, yAJ, yAK]
def y9n (t : yi2) : St := ⟨.dead :: .box 1 0 :: dd 2 (.own 10000000 :: vI t.1 :: vI t.2.1 :: dd 42 []), [(1, .box [z7 t.2.2.1, yu t.2.2.2.1, zk t.2.2.2.2.1, yN t.2.2.2.2.2.1, Y3 t.2.2.2.2.2.2.1, vI t.2.2.2.2.2.2.2.1]), (10000000, .root true 64 yk t.2.2.2.2.2.2.2.2)]⟩
def yqr : Gk k7 := fun κ => Zm (fun t => κ none ⟨.dead :: .box 1 0 :: vI t.1 :: vI t.2.1 :: .own 10000000 :: vI t.2.2.1 :: dd 43 [], [(1, .box [z7 t.2.2.2.1, yu t.2.2.2.2.1, zk t.2.2.2.2.2.1, yN t.2.2.2.2.2.2.1, Y3 t.2.2.2.2.2.2.2.1, vI t.2.2.2.2.2.2.2.2.1]), (10000000, .root true 64 yk t.2.2.2.2.2.2.2.2.2)]⟩) (fun t => κ (some 2) ⟨.dead :: .box 1 0 :: dd 2 (.own 10000000 :: vI t.1 :: dd 43 []), [(1, .box [z7 t.2.1, yu t.2.2.1, zk t.2.2.2.1, yN t.2.2.2.2.1, Y3 t.2.2.2.2.2.1, vI t.2.2.2.2.2.2.1]), (10000000, .root true 64 yk t.2.2.2.2.2.2.2)]⟩)
def y9o (t : yi6) : St := ⟨.dead :: .box 1 0 :: dd 2 (.own 10000000 :: vI t.1 :: dd 43 []), [(1, .box [z7 t.2.1, yu t.2.2.1, zk t.2.2.2.1, yN t.2.2.2.2.1, Y3 t.2.2.2.2.2.1, vI t.2.2.2.2.2.2.1]), (10000000, .root true 64 yk t.2.2.2.2.2.2.2)]⟩
def yqs : Gk k8 := fun κ => Zn (fun t => κ none ⟨.dead :: .box 1 0 :: vI t.1 :: vI t.2.1 :: dd 45 [], [(1, .box [z7 t.2.2.1, yu t.2.2.2.1, zk t.2.2.2.2.1, yN t.2.2.2.2.2.1, Y3 t.2.2.2.2.2.2.1, vI t.2.2.2.2.2.2.2])]⟩) (fun t => κ (some 0) ⟨.dead :: .box 1 0 :: dd 47 [], [(1, .box [z7 t.1, yu t.2.1, zk t.2.2.1, yN t.2.2.2.1, Y3 t.2.2.2.2.1, vI t.2.2.2.2.2])]⟩)
def y6a (t : ybB) : St := ⟨.dead :: .box 1 0 :: dd 5 (vI t.1 :: dd 41 []), [(1, .box [z7 t.2.1, yu t.2.2.1, zk t.2.2.2.1, yN t.2.2.2.2.1, Y3 t.2.2.2.2.2.1, vI t.2.2.2.2.2.2])]⟩
def yh6 : Gk Wc := fun κ => YX (fun t => κ none ⟨dd 2 (vI t.1 :: vI t.2 :: dd 45 []), []⟩) (fun t => κ (some 4) ⟨dd 49 [], []⟩)
def yjj : Lp := lpC 13 (unG ygs y6a) @yh6 (lpC 5 (unG ylg y9o) @yqs (lpC 8 (unG ykL y9n) @yqr lpN))
theorem yvl : LF yji yjj 33 8 Tryz.f33 1 y9n @yqr fun t => t := fun R κ again t => by kernel_rfl
theorem yvm : LK yji yjj 33 Tryz.f33 1 := lkN (u := (unG ykL y9n)) (yr fun t => by kernel_rfl) yvl
theorem yvn : LF yji yjj 33 5 Tryz.f33 0 y9o @yqs fun t => t := fun R κ again t => by kernel_rfl
theorem yvo : LK yji yjj 33 Tryz.f33 0 := lkN (u := (unG ylg y9o)) (yr fun t => by kernel_rfl) yvn
theorem yqt : LF yji yjj 33 13 Tryz.f33 2 y6a @yh6 fun t => t := fun R κ again t => by kernel_rfl
theorem yqu : LK yji yjj 33 Tryz.f33 2 := lkN (u := (unG ygs y6a)) (yr fun t => by kernel_rfl) yqt
theorem yAL : EV yji yjj 33 Tryz.f33 yyD qz9 ylb jS := fun x => by kernel_rfl
def q33 : QF := ⟨33, jS, okN (n := 3) Tryz.func33 ⟨yvo, yvm, yqu, trivial⟩ yAL⟩
def Zd (x : ysj) : Option yi1 :=
 Option.bind (zx (x.1, x.2.1, x.2.2.1, x.2.2.2.1, x.2.2.2.2.1, x.2.2.2.2.2.1, x.2.2.2.2.2.2.1, x.2.2.2.2.2.2.2.1, (0 : Int), (0 : Int), (0 : Int))) fun r1 => some r1
theorem yvp : EV [yuZ] lpN 141 Tryz.f141 ynX ysk ysQ Zd := fun x => by kernel_rfl
def yAM : QF := ⟨141, Zd, okN (n := 0) Tryz.func141 trivial yvp⟩
abbrev KW : Type := ylh
def Wd (k0 : List yd → Option R) (again : KW → Option R) (t6 : KW) : Option R :=
 bif (decide (t6.2.2.2.1 < (List.length t6.1 : Int))) then if (0 : Int) ≤ t6.2.2.2.1 then if t6.2.2.2.1 < (List.length t6.1 : Int) then bif ((yK t6.1 t6.2.2.2.1).2 == t6.2.1) then if (0 : Int) ≤ t6.2.2.1 then if t6.2.2.1 < (List.length t6.1 : Int) then bif (t6.2.2.2.1 != t6.2.2.1) then if (List.length t6.2.2.2.2 + List.length ([((yK t6.1 t6.2.2.2.1).1, (yK t6.1 t6.2.2.1).2)] : List yd)) * 16 < 140737488355328 then again (t6.1, t6.2.1, t6.2.2.1, (Go.IntKind.wrap .i64 (t6.2.2.2.1 + (1 : Int))), (t6.2.2.2.2 ++ ([((yK t6.1 t6.2.2.2.1).1, (yK t6.1 t6.2.2.1).2)] : List yd))) else none else again (t6.1, t6.2.1, t6.2.2.1, (Go.IntKind.wrap .i64 (t6.2.2.2.1 + (1 : Int))), t6.2.2.2.2) else none else none else bif (t6.2.2.2.1 != t6.2.2.1) then if (List.length t6.2.2.2.2 + List.length ([((yK t6.1 t6.2.2.2.1).1, (yK t6.1 t6.2.2.2.1).2)] : List yd)) * 16 < 140737488355328 then again (t6.1, t6.2.1, t6.2.2.1, (Go.IntKind.wrap .i64 (t6.2.2.2.1 + (1 : Int))), (t6.2.2.2.2 ++ ([((yK t6.1 t6.2.2.2.1).1, (yK t6.1 t6.2.2.2.1).2)] : List yd))) else none else again (t6.1, t6.2.1, t6.2.2.1, (Go.IntKind.wrap .i64 (t6.2.2.2.1 + (1 : Int))), t6.2.2.2.2) else none else none else k0 t6.2.2.2.2
def Q4 k0 := zE (@Wd R k0) zW
def Js (x : yet) : Option ysc :=
 Option.bind (zD x) fun r1 => Option.bind (bif (decide (r1 < (0 : Int))) then some true else Option.bind (YS x.1) fun r3 => some (!r3)) fun u2 => bif u2 then if (List.length ([] : List yd) + List.length x.1) * 16 < 140737488355328 then some ((([] : List yd) ++ x.1), false) else none else Q4 (fun x4 => some (x4, true)) (x.1, x.2, r1, (0 : Int), ([] : List yd))
def yjk : List QF := [yuj, ykP]
def y6b (t : ylh) : St := ⟨zk t.1 :: vI t.2.1 :: dd 4 (vI t.2.2.1 :: .own 10000000 :: vI t.2.2.2.1 :: dd 43 []), [(10000000, .root true 146 yo t.2.2.2.2)]⟩
def yh7 : Gk KW := fun κ => Wd (fun t => κ (some 0) ⟨dd 7 (.own 10000000 :: dd 44 []), [(10000000, .root true 146 yo t)]⟩)
def yjl : Lp := lpC 6 (unG yli y6b) @yh7 lpN
theorem yqv : LF yjk yjl 143 6 Tryz.f143 0 y6b @yh7 fun t => t := fun R κ again t => by kernel_rfl
theorem yqw : LK yjk yjl 143 Tryz.f143 0 := lkN (u := (unG yli y6b)) (yr fun t => by kernel_rfl) yqv
theorem yvq : EV yjk yjl 143 Tryz.f143 ynY yeu yxA Js := fun x => by kernel_rfl
def yAN : QF := ⟨143, Js, okN (n := 1) Tryz.func143 ⟨yqw, trivial⟩ yvq⟩
def zX (x : Qz9) : Option ykN :=
 Option.bind (yl x) fun r1 => Option.bind (jS x) fun r2 => Option.bind (yG (x.1, x.2.1)) fun r3 => bif (r2.1 == (1 : Int)) then bif (r2.1 == (1 : Int)) then if (0 : Int) ≤ r2.2 then if r2.2 < (List.length r3 : Int) then Option.bind (Zd (r1.1, r1.2.1, r1.2.2.1, r1.2.2.2.1, r1.2.2.2.2.1, r1.2.2.2.2.2, (y8 r3 r2.2).1, (y8 r3 r2.2).2.1, (y8 r3 r2.2).2.2.1, (y8 r3 r2.2).2.2.2.1, (y8 r3 r2.2).2.2.2.2)) fun r4 => Option.bind (bif (!r4.1) then some true else Option.bind (yE r4.2) fun r6 => some (!r6)) fun u5 => bif u5 then Option.bind (yl x) fun r7 => some (r7.1, r7.2.1, r7.2.2.1, r7.2.2.2.1, r7.2.2.2.2.1, r7.2.2.2.2.2, false) else some (r4.2.1, r4.2.2.1, r4.2.2.2.1, r4.2.2.2.2.1, r4.2.2.2.2.2.1, r4.2.2.2.2.2.2, true) else none else none else bif (r2.1 == (3 : Int)) then if (0 : Int) ≤ r2.2 then if r2.2 < (List.length r3 : Int) then Option.bind (zH (r1.1, r1.2.1, (y8 r3 r2.2).1, (y8 r3 r2.2).2.1, (0 : Int), (0 : Int), (0 : Int))) fun r8 => Option.bind (YW (x.1, x.2.1, x.2.2.1, x.2.2.2.1, x.2.2.2.2.1, x.2.2.2.2.2, (y8 r3 r2.2).2.1)) fun r9 => Option.bind (zH (r8.1, r8.2.1, (y8 r3 r2.2).1, r9, (y8 r3 r2.2).2.2.1, (y8 r3 r2.2).2.2.2.1, (y8 r3 r2.2).2.2.2.2)) fun r10 => Option.bind (bif r8.2.2 then some r10.2.2 else some false) fun u11 => Option.bind (bif (!u11) then some true else Option.bind (yE (r10.1, r10.2.1, r1.2.2)) fun r13 => some (!r13)) fun u12 => bif u12 then Option.bind (yl x) fun r14 => some (r14.1, r14.2.1, r14.2.2.1, r14.2.2.2.1, r14.2.2.2.2.1, r14.2.2.2.2.2, false) else some (r10.1, r10.2.1, r1.2.2.1, r1.2.2.2.1, r1.2.2.2.2.1, r1.2.2.2.2.2, true) else none else none else bif (r2.1 == (4 : Int)) then if (0 : Int) ≤ r2.2 then if r2.2 < (List.length x.2.2.1 : Int) then Option.bind (Js (x.2.2.1, (yK x.2.2.1 r2.2).1)) fun r15 => Option.bind (bif (!r15.2) then some true else Option.bind (yE (r1.1, r1.2.1, r15.1, r1.2.2.2)) fun r17 => some (!r17)) fun u16 => bif u16 then Option.bind (yl x) fun r18 => some (r18.1, r18.2.1, r18.2.2.1, r18.2.2.2.1, r18.2.2.2.2.1, r18.2.2.2.2.2, false) else some (r1.1, r1.2.1, r15.1, r1.2.2.2.1, r1.2.2.2.2.1, r1.2.2.2.2.2, true) else none else none else Option.bind (bif (!(r2.1 != (0 : Int))) then some true else Option.bind (yE r1) fun r20 => some (!r20)) fun u19 => bif u19 then Option.bind (yl x) fun r21 => some (r21.1, r21.2.1, r21.2.2.1, r21.2.2.2.1, r21.2.2.2.2.1, r21.2.2.2.2.2, false) else some (r1.1, r1.2.1, r1.2.2.1, r1.2.2.2.1, r1.2.2.2.2.1, r1.2.2.2.2.2, true) else bif (r2.1 == (2 : Int)) then if (0 : Int) ≤ r2.2 then if r2.2 < (List.length r3 : Int) then Option.bind (Zd (r1.1, r1.2.1, r1.2.2.1, r1.2.2.2.1, r1.2.2.2.2.1, r1.2.2.2.2.2, (y8 r3 r2.2).1, (y8 r3 r2.2).2.1, (y8 r3 r2.2).2.2.1, (y8 r3 r2.2).2.2.2.1, (y8 r3 r2.2).2.2.2.2)) fun r22 => Option.bind (bif (!r22.1) then some true else Option.bind (yE r22.2) fun r24 => some (!r24)) fun u23 => bif u23 then Option.bind (yl x) fun r25 => some (r25.1, r25.2.1, r25.2.2.1, r25.2.2.2.1, r25.2.2.2.2.1, r25.2.2.2.2.2, false) else some (r22.2.1, r22.2.2.1, r22.2.2.2.1, r22.2.2.2.2.1, r22.2.2.2.2.2.1, r22.2.2.2.2.2.2, true) else none else none else bif (r2.1 == (3 : Int)) then if (0 : Int) ≤ r2.2 then if r2.2 < (List.length r3 : Int) then Option.bind (zH (r1.1, r1.2.1, (y8 r3 r2.2).1, (y8 r3 r2.2).2.1, (0 : Int), (0 : Int), (0 : Int))) fun r26 => Option.bind (YW (x.1, x.2.1, x.2.2.1, x.2.2.2.1, x.2.2.2.2.1, x.2.2.2.2.2, (y8 r3 r2.2).2.1)) fun r27 => Option.bind (zH (r26.1, r26.2.1, (y8 r3 r2.2).1, r27, (y8 r3 r2.2).2.2.1, (y8 r3 r2.2).2.2.2.1, (y8 r3 r2.2).2.2.2.2)) fun r28 => Option.bind (bif r26.2.2 then some r28.2.2 else some false) fun u29 => Option.bind (bif (!u29) then some true else Option.bind (yE (r28.1, r28.2.1, r1.2.2)) fun r31 => some (!r31)) fun u30 => bif u30 then Option.bind (yl x) fun r32 => some (r32.1, r32.2.1, r32.2.2.1, r32.2.2.2.1, r32.2.2.2.2.1, r32.2.2.2.2.2, false) else some (r28.1, r28.2.1, r1.2.2.1, r1.2.2.2.1, r1.2.2.2.2.1, r1.2.2.2.2.2, true) else none else none else bif (r2.1 == (4 : Int)) then if (0 : Int) ≤ r2.2 then if r2.2 < (List.length x.2.2.1 : Int) then Option.bind (Js (x.2.2.1, (yK x.2.2.1 r2.2).1)) fun r33 => Option.bind (bif (!r33.2) then some true else Option.bind (yE (r1.1, r1.2.1, r33.1, r1.2.2.2)) fun r35 => some (!r35)) fun u34 => bif u34 then Option.bind (yl x) fun r36 => some (r36.1, r36.2.1, r36.2.2.1, r36.2.2.2.1, r36.2.2.2.2.1, r36.2.2.2.2.2, false) else some (r1.1, r1.2.1, r33.1, r1.2.2.2.1, r1.2.2.2.2.1, r1.2.2.2.2.2, true) else none else none else Option.bind (bif (!(r2.1 != (0 : Int))) then some true else Option.bind (yE r1) fun r38 => some (!r38)) fun u37 => bif u37 then Option.bind (yl x) fun r39 => some (r39.1, r39.2.1, r39.2.2.1, r39.2.2.2.1, r39.2.2.2.2.1, r39.2.2.2.2.2, false) else some (r1.1, r1.2.1, r1.2.2.1, r1.2.2.2.1, r1.2.2.2.2.1, r1.2.2.2.2.2, true)
theorem yAO : EV [q33, q94, q95, ysp, yin, yAM, yzk, yAN] lpN 35 Tryz.f35 yyE qz9 ykO zX := fun x => by kernel_rfl
def q35 : QF := ⟨35, zX, okN (n := 0) Tryz.func35 trivial yAO⟩
def kA (x : ylj) : Option ykN :=
 bif (x.2.2.2.2.2.2.1 == (7 : Int)) then Option.bind (zX (x.1, x.2.1, x.2.2.1, x.2.2.2.1, x.2.2.2.2.1, x.2.2.2.2.2.1)) fun r1 => some r1 else bif (x.2.2.2.2.2.2.1 == (8 : Int)) then Option.bind (zI (x.1, x.2.1, x.2.2.1, x.2.2.2.1, x.2.2.2.2.1, x.2.2.2.2.2.1, x.2.2.2.2.2.2.2.2.2.1)) fun r2 => some r2 else Option.bind (zs (x.1, x.2.1, x.2.2.1, x.2.2.2.1, x.2.2.2.2.1, x.2.2.2.2.2.1, x.2.2.2.2.2.2.2.2.2.1)) fun r3 => some r3
theorem yvr : EV [q12, q15, q35] lpN 315 Tryz.f315 ynZ ylk ykO kA := fun x => by kernel_rfl
def yAP : QF := ⟨315, kA, okN (n := 0) Tryz.func315 trivial yvr⟩
def jT (x : ylj) : Option y7c :=
 Option.bind (KR x.2.2.2.2.2.2) fun r1 => Option.bind (bif (!r1) then some true else Option.bind (yE (x.1, x.2.1, x.2.2.1, x.2.2.2.1, x.2.2.2.2.1, x.2.2.2.2.2.1)) fun r3 => some (!r3)) fun u2 => bif u2 then Option.bind (yl (x.1, x.2.1, x.2.2.1, x.2.2.2.1, x.2.2.2.2.1, x.2.2.2.2.2.1)) fun r4 => some (r4.1, r4.2.1, r4.2.2.1, r4.2.2.2.1, r4.2.2.2.2.1, r4.2.2.2.2.2, (1 : Int)) else bif (x.2.2.2.2.2.2.1 == (1 : Int)) then Option.bind (Jm (x.1, x.2.1, x.2.2.1, x.2.2.2.1, x.2.2.2.2.1, x.2.2.2.2.2.1, x.2.2.2.2.2.2.2.1, x.2.2.2.2.2.2.2.2.2.1)) fun r5 => some r5 else bif (x.2.2.2.2.2.2.1 == (2 : Int)) then Option.bind (WY (x.1, x.2.1, x.2.2.1, x.2.2.2.1, x.2.2.2.2.1, x.2.2.2.2.2.1, x.2.2.2.2.2.2.2.1, x.2.2.2.2.2.2.2.2.1, (x.2.2.2.2.2.2.2.2.2.2 == (1 : Int)))) fun r6 => some r6 else bif (x.2.2.2.2.2.2.1 == (3 : Int)) then Option.bind (ZN (x.1, x.2.1, x.2.2.1, x.2.2.2.1, x.2.2.2.2.1, x.2.2.2.2.2.1, x.2.2.2.2.2.2.2.1)) fun r7 => some r7 else bif (x.2.2.2.2.2.2.1 == (4 : Int)) then Option.bind (wH (x.1, x.2.1, x.2.2.1, x.2.2.2.1, x.2.2.2.2.1, x.2.2.2.2.2.1, x.2.2.2.2.2.2.2.1, x.2.2.2.2.2.2.2.2.2)) fun r8 => some r8 else bif (x.2.2.2.2.2.2.1 == (5 : Int)) then Option.bind (jm (x.1, x.2.1, x.2.2.1, x.2.2.2.1, x.2.2.2.2.1, x.2.2.2.2.2.1, x.2.2.2.2.2.2.2.1, x.2.2.2.2.2.2.2.2.2.1)) fun r9 => some r9 else bif (x.2.2.2.2.2.2.1 == (6 : Int)) then Option.bind (Jr (x.1, x.2.1, x.2.2.1, x.2.2.2.1, x.2.2.2.2.1, x.2.2.2.2.2.1, x.2.2.2.2.2.2.2.1, x.2.2.2.2.2.2.2.2.2.1)) fun r10 => some r10 else Option.bind (kA x) fun r11 => bif (!r11.2.2.2.2.2.2) then some (r11.1, r11.2.1, r11.2.2.1, r11.2.2.2.1, r11.2.2.2.2.1, r11.2.2.2.2.2.1, (2 : Int)) else some (r11.1, r11.2.1, r11.2.2.1, r11.2.2.2.1, r11.2.2.2.2.1, r11.2.2.2.2.2.1, (0 : Int))
theorem yvs : EV [q59, q61, q64, q66, q70, q73, q94, q95, yAz, yAP] lpN 239 Tryz.f239 yo0 ylk y7d jT := fun x => by kernel_rfl
def yAQ : QF := ⟨239, jT, okN (n := 0) Tryz.func239 trivial yvs⟩
abbrev wk : Type := ycA ⊕ ycB
def j9 (k0 : yt5 → Option R) (k1 : yt6 → Option R) (again : wk → Option R) : wk → Option R
 | .inl t3 => bif (decide (t3.1 > (0 : Int))) then Option.bind (Za (t3.2.1, t3.2.2.1, t3.2.2.2.1)) fun r3 => Option.bind (jT (t3.2.2.2.2.2.2.1, t3.2.2.2.2.2.2.2.1, t3.2.2.2.2.2.2.2.2.1, t3.2.2.2.2.2.2.2.2.2.1, t3.2.2.2.2.2.2.2.2.2.2, t3.2.2.2.2.2.1, r3.1, r3.2.1, r3.2.2.1, r3.2.2.2.1, r3.2.2.2.2.1)) fun r4 => again (Sum.inr ((Go.IntKind.wrap .i64 (t3.1 - (1 : Int))), r3.2.2.2.2.2.1, r3.2.2.2.2.2.2.1, r3.2.2.2.2.2.2.2, t3.2.2.2.2.1, r4.1, r4.2.1, r4.2.2.1, r4.2.2.2.2.2.1, r4.2.2.2.1, r4.2.2.2.2.1)) else k0 t3.2
 | .inr t3 => bif (decide (t3.1 > (0 : Int))) then Option.bind (Za (t3.2.1, t3.2.2.1, t3.2.2.2.1)) fun r5 => Option.bind (jT (t3.2.2.2.2.2.1, t3.2.2.2.2.2.2.1, t3.2.2.2.2.2.2.2.1, t3.2.2.2.2.2.2.2.2.2.1, t3.2.2.2.2.2.2.2.2.2.2, t3.2.2.2.2.2.2.2.2.1, r5.1, r5.2.1, r5.2.2.1, r5.2.2.2.1, r5.2.2.2.2.1)) fun r6 => again (Sum.inr ((Go.IntKind.wrap .i64 (t3.1 - (1 : Int))), r5.2.2.2.2.2.1, r5.2.2.2.2.2.2.1, r5.2.2.2.2.2.2.2, t3.2.2.2.2.1, r6.1, r6.2.1, r6.2.2.1, r6.2.2.2.2.2.1, r6.2.2.2.1, r6.2.2.2.2.1)) else k1 t3.2
def qm k0 k1 := zE (@j9 R k0 k1) zW
def JR (x : Qz3) : Option yln :=
 Option.bind (ky ()) fun r1 => Option.bind (yc (x.1, x.2.1, x.2.2.1, (Go.IntKind.wrap .i64 (x.2.2.2 + (1 : Int))))) fun r2 => qm (fun x7 => some (x7.2.2.2.2.2.1, x7.2.2.2.2.2.2.1, x7.2.2.2.2.2.2.2.1, x7.2.2.2.2.2.2.2.2.1, x7.2.2.2.2.2.2.2.2.2, x7.2.2.2.2.1, x7.1, x7.2.1, x7.2.2.1)) (fun x8 => some (x8.2.2.2.2.1, x8.2.2.2.2.2.1, x8.2.2.2.2.2.2.1, x8.2.2.2.2.2.2.2.2.1, x8.2.2.2.2.2.2.2.2.2, x8.2.2.2.2.2.2.2.1, x8.1, x8.2.1, x8.2.2.1)) (Sum.inl (r2.1, r2.2.1, r2.2.2.1, r2.2.2.2, (0 : Int), r1.2.2.2.2.2, r1.1, r1.2.1, r1.2.2.1, r1.2.2.2.1, r1.2.2.2.2.1))
def ycX : List QF := [yA6, y45, yA7, yAQ]
def y2p (t : ycA) : St := ⟨.box 900 0 :: dd 3 (.box 4 0 :: .box 5 0 :: vI t.1 :: dd 17 []), [(900, .box [y3Y t.2.1, vI t.2.2.1, vI t.2.2.2.1]), (4, .box [.nils, .nils, .nils, .nils, .nils, vI t.2.2.2.2.1]), (5, .box [.own 10000000, .own 10000001, .own 10000002, .own 10000003, .own 10000004, vI t.2.2.2.2.2.1]), (10000000, .root true 3 yi t.2.2.2.2.2.2.1), (10000001, .root true 140 yh t.2.2.2.2.2.2.2.1), (10000002, .root true 146 yo t.2.2.2.2.2.2.2.2.1), (10000003, .root true 113 ye t.2.2.2.2.2.2.2.2.2.1), (10000004, .root true 46 yx t.2.2.2.2.2.2.2.2.2.2)]⟩
theorem yeP : ∀ s t, unG yll y2p s = some t → y2p t = s := yr fun t => by kernel_rfl
def y2q (t : ycB) : St := ⟨.box 900 0 :: dd 3 (.box 4 0 :: .box 5 0 :: vI t.1 :: dd 17 []), [(900, .box [y3Y t.2.1, vI t.2.2.1, vI t.2.2.2.1]), (4, .box [.nils, .nils, .nils, .nils, .nils, vI t.2.2.2.2.1]), (5, .box [z7 t.2.2.2.2.2.1, yu t.2.2.2.2.2.2.1, zk t.2.2.2.2.2.2.2.1, .own 10000000, .own 10000001, vI t.2.2.2.2.2.2.2.2.1]), (10000000, .root true 113 ye t.2.2.2.2.2.2.2.2.2.1), (10000001, .root true 46 yx t.2.2.2.2.2.2.2.2.2.2)]⟩
theorem yeQ : ∀ s t, unG ylm y2q s = some t → y2q t = s := yr fun t => by kernel_rfl
def y2r : (ycA ⊕ ycB) → St := Sum.elim y2p y2q
def y6c (s : St) : Option (ycA ⊕ ycB) := ((unG yll y2p s).map Sum.inl).or (((unG ylm y2q) s).map Sum.inr)
theorem yeR : ∀ s t, y6c s = some t → y2r t = s := y3h yeP yeQ
def yax : Gk wk := fun κ => j9 (fun t => κ (some 0) ⟨.box 900 0 :: dd 3 (.box 4 0 :: .box 5 0 :: dd 18 []), [(900, .box [y3Y t.1, vI t.2.1, vI t.2.2.1]), (4, .box [.nils, .nils, .nils, .nils, .nils, vI t.2.2.2.1]), (5, .box [.own 10000000, .own 10000001, .own 10000002, .own 10000003, .own 10000004, vI t.2.2.2.2.1]), (10000000, .root true 3 yi t.2.2.2.2.2.1), (10000001, .root true 140 yh t.2.2.2.2.2.2.1), (10000002, .root true 146 yo t.2.2.2.2.2.2.2.1), (10000003, .root true 113 ye t.2.2.2.2.2.2.2.2.1), (10000004, .root true 46 yx t.2.2.2.2.2.2.2.2.2)]⟩) (fun t => κ (some 0) ⟨.box 900 0 :: dd 3 (.box 4 0 :: .box 5 0 :: dd 18 []), [(900, .box [y3Y t.1, vI t.2.1, vI t.2.2.1]), (4, .box [.nils, .nils, .nils, .nils, .nils, vI t.2.2.2.1]), (5, .box [z7 t.2.2.2.2.1, yu t.2.2.2.2.2.1, zk t.2.2.2.2.2.2.1, .own 10000000, .own 10000001, vI t.2.2.2.2.2.2.2.1]), (10000000, .root true 113 ye t.2.2.2.2.2.2.2.2.1), (10000001, .root true 46 yx t.2.2.2.2.2.2.2.2.2)]⟩)
def ycY : Lp := lpC 3 y6c @yax lpN
theorem yeS : LF ycX ycY 113 3 Tryz.f113 0 y2r @yax fun v : ycA => .inl v := fun R κ again v => by kernel_rfl
theorem yeT : LF ycX ycY 113 3 Tryz.f113 0 y2r @yax fun v : ycB => .inr v := fun R κ again v => by kernel_rfl
theorem yqx : LF ycX ycY 113 3 Tryz.f113 0 y2r @yax fun t => t := (LC.sum yeS yeT)
theorem yqy : LK ycX ycY 113 Tryz.f113 0 := lkN (u := y6c) yeR yqx
theorem yvt : EV ycX ycY 113 Tryz.f113 yo1 qz3 ylo JR := fun x => by kernel_rfl
def yAR : QF := ⟨113, JR, okN (n := 1) Tryz.func113 ⟨yqy, trivial⟩ yvt⟩
def zM (x : Qz0) : Option yi7 :=
 Option.bind (yc (x.1, x.2.1, x.2.2, (4 : Int))) fun r1 => Option.bind (yc (r1.2.1, r1.2.2.1, r1.2.2.2, (5 : Int))) fun r2 => Option.bind (yt (r2.2.1, r2.2.2.1, r2.2.2.2, ([(0 : Int), (1 : Int), (1 : Int), (1 : Int), (2 : Int)] : List yf))) fun r3 => bif (r3.1 == (1 : Int)) then Option.bind (yc (r3.2.1, r3.2.2.1, r3.2.2.2, (24 : Int))) fun r4 => Option.bind (yt (r4.2.1, r4.2.2.1, r4.2.2.2, ([(0 : Int), (1 : Int), (256 : Int), (999 : Int)] : List yf))) fun r5 => some (r1.1, (Go.IntKind.wrap .i64 ((1 : Int) + r2.1)), r3.1, r4.1, r5.1, r5.2.1, r5.2.2.1, r5.2.2.2) else some (r1.1, (Go.IntKind.wrap .i64 ((1 : Int) + r2.1)), r3.1, (0 : Int), (0 : Int), r3.2.1, r3.2.2.1, r3.2.2.2)
theorem yvu : EV [q90, y45] lpN 264 Tryz.f264 yo2 qz0 yi8 zM := fun x => by kernel_rfl
def yqz : QF := ⟨264, zM, okN (n := 0) Tryz.func264 trivial yvu⟩
def kP (x : Qz0) : Option yi7 :=
 Option.bind (zM x) fun r1 => Option.bind (yc (r1.2.2.2.2.2.1, r1.2.2.2.2.2.2.1, r1.2.2.2.2.2.2.2, (12 : Int))) fun r2 => some (r2.1, r1.2.1, r1.2.2.1, r1.2.2.2.1, r1.2.2.2.2.1, r2.2)
theorem yvv : EV [y45, yqz] lpN 146 Tryz.f146 yo3 qz0 yi8 kP := fun x => by kernel_rfl
def yAS : QF := ⟨146, kP, okN (n := 0) Tryz.func146 trivial yvv⟩
abbrev We : Type := ylp
def Wf (k0 : yt7 → Option R) (again : We → Option R) (t3 : We) : Option R :=
 bif (decide (t3.1 > (0 : Int))) then Option.bind (kP (t3.2.1, t3.2.2.1, t3.2.2.2.1)) fun r3 => Option.bind (zH (t3.2.2.2.2.1, t3.2.2.2.2.2, r3.1, r3.2.1, r3.2.2.1, r3.2.2.2.1, r3.2.2.2.2.1)) fun r4 => again ((Go.IntKind.wrap .i64 (t3.1 - (1 : Int))), r3.2.2.2.2.2.1, r3.2.2.2.2.2.2.1, r3.2.2.2.2.2.2.2, r4.1, r4.2.1) else k0 t3.2
def Q5 k0 := zE (@Wf R k0) zW
def Wg (x : Qz3) : Option ylr :=
 Option.bind (jj ()) fun r1 => Option.bind (yc (x.1, x.2.1, x.2.2.1, (Go.IntKind.wrap .i64 (x.2.2.2 + (1 : Int))))) fun r2 => Q5 (fun x5 => some (x5.2.2.2.1, x5.2.2.2.2, x5.1, x5.2.1, x5.2.2.1)) (r2.1, r2.2.1, r2.2.2.1, r2.2.2.2, r1)
def yjm : List QF := [ysp, y45, yAS, yz1]
def y6d (t : ylp) : St := ⟨.box 900 0 :: dd 3 (.box 4 0 :: .box 5 0 :: vI t.1 :: dd 17 []), [(900, .box [y3Y t.2.1, vI t.2.2.1, vI t.2.2.2.1]), (4, .box [.nils, .nils]), (5, .box [.own 10000000, .own 10000001]), (10000000, .root true 3 yi t.2.2.2.2.1), (10000001, .root true 140 yh t.2.2.2.2.2)]⟩
def yh8 : Gk We := fun κ => Wf (fun t => κ (some 0) ⟨.box 900 0 :: dd 3 (.box 4 0 :: .box 5 0 :: dd 18 []), [(900, .box [y3Y t.1, vI t.2.1, vI t.2.2.1]), (4, .box [.nils, .nils]), (5, .box [.own 10000000, .own 10000001]), (10000000, .root true 3 yi t.2.2.2.1), (10000001, .root true 140 yh t.2.2.2.2)]⟩)
def yjn : Lp := lpC 3 (unG ylq y6d) @yh8 lpN
theorem yqA : LF yjm yjn 332 3 Tryz.f332 0 y6d @yh8 fun t => t := fun R κ again t => by kernel_rfl
theorem yqB : LK yjm yjn 332 Tryz.f332 0 := lkN (u := (unG ylq y6d)) (yr fun t => by kernel_rfl) yqA
theorem yvw : EV yjm yjn 332 Tryz.f332 yo4 qz3 yls Wg := fun x => by kernel_rfl
def yAT : QF := ⟨332, Wg, okN (n := 1) Tryz.func332 ⟨yqB, trivial⟩ yvw⟩
abbrev Wh : Type := Qz2 ⊕ ycC
def jU (k0 : Qz0 → Option R) (k1 : yt8 → Option R) (again : Wh → Option R) : Wh → Option R
 | .inl t3 => bif (decide (t3.1 > (0 : Int))) then Option.bind (zM t3.2) fun r2 => Option.bind (Yu (([] : List yb), r2.1, r2.2.1, r2.2.2.1, r2.2.2.2.1, r2.2.2.2.2.1)) fun r3 => again (Sum.inr ((Go.IntKind.wrap .i64 (t3.1 - (1 : Int))), r2.2.2.2.2.2.1, r2.2.2.2.2.2.2.1, r2.2.2.2.2.2.2.2, r3.1)) else k0 t3.2
 | .inr t3 => bif (decide (t3.1 > (0 : Int))) then Option.bind (zM (t3.2.1, t3.2.2.1, t3.2.2.2.1)) fun r4 => Option.bind (Yu (t3.2.2.2.2, r4.1, r4.2.1, r4.2.2.1, r4.2.2.2.1, r4.2.2.2.2.1)) fun r5 => again (Sum.inr ((Go.IntKind.wrap .i64 (t3.1 - (1 : Int))), r4.2.2.2.2.2.1, r4.2.2.2.2.2.2.1, r4.2.2.2.2.2.2.2, r5.1)) else k1 t3.2
def Q6 k0 k1 := zE (@jU R k0 k1) zW
def Wi (x : Qz0) : Option ylu :=
 Option.bind (yc (x.1, x.2.1, x.2.2, (12 : Int))) fun r1 => Q6 (fun x6 => some (([] : List yb), x6.1, x6.2.1, x6.2.2)) (fun x7 => some (x7.2.2.2, x7.1, x7.2.1, x7.2.2.1)) (Sum.inl r1)
def ycZ : List QF := [y45, yze, yqz]
def y2s (t : Qz2) : St := ⟨.box 900 0 :: .dead :: .box 2 0 :: .box 3 0 :: vI t.1 :: dd 15 [], [(900, .box [y3Y t.2.1, vI t.2.2.1, vI t.2.2.2]), (2, .box [.nils]), (3, .box [.nils])]⟩
theorem yeU : ∀ s t, unG qz2 y2s s = some t → y2s t = s := yr fun t => by kernel_rfl
def y2t (t : ycC) : St := ⟨.box 900 0 :: .dead :: .box 2 0 :: .box 3 0 :: vI t.1 :: dd 15 [], [(900, .box [y3Y t.2.1, vI t.2.2.1, vI t.2.2.2.1]), (2, .box [.nils]), (3, .box [.own 10000000]), (10000000, .root true 58 yn t.2.2.2.2)]⟩
theorem yeV : ∀ s t, unG ylt y2t s = some t → y2t t = s := yr fun t => by kernel_rfl
def y2u : (Qz2 ⊕ ycC) → St := Sum.elim y2s y2t
def y6e (s : St) : Option (Qz2 ⊕ ycC) := ((unG qz2 y2s s).map Sum.inl).or (((unG ylt y2t) s).map Sum.inr)
theorem yeW : ∀ s t, y6e s = some t → y2u t = s := y3h yeU yeV
def yay : Gk Wh := fun κ => jU (fun t => κ (some 0) ⟨.box 900 0 :: .dead :: .box 2 0 :: .box 3 0 :: dd 16 [], [(900, .box [y3Y t.1, vI t.2.1, vI t.2.2]), (2, .box [.nils]), (3, .box [.nils])]⟩) (fun t => κ (some 0) ⟨.box 900 0 :: .dead :: .box 2 0 :: .box 3 0 :: dd 16 [], [(900, .box [y3Y t.1, vI t.2.1, vI t.2.2.1]), (2, .box [.nils]), (3, .box [.own 10000000]), (10000000, .root true 58 yn t.2.2.2)]⟩)
def yd0 : Lp := lpC 3 y6e @yay lpN
theorem yeX : LF ycZ yd0 352 3 Tryz.f352 0 y2u @yay fun v : Qz2 => .inl v := fun R κ again v => by kernel_rfl
theorem yeY : LF ycZ yd0 352 3 Tryz.f352 0 y2u @yay fun v : ycC => .inr v := fun R κ again v => by kernel_rfl
theorem yqC : LF ycZ yd0 352 3 Tryz.f352 0 y2u @yay fun t => t := (LC.sum yeX yeY)
theorem yqD : LK ycZ yd0 352 Tryz.f352 0 := lkN (u := y6e) yeW yqC
theorem yvx : EV ycZ yd0 352 Tryz.f352 yo5 qz0 ylv Wi := fun x => by kernel_rfl
def yAU : QF := ⟨352, Wi, okN (n := 1) Tryz.func352 ⟨yqD, trivial⟩ yvx⟩
abbrev Wj : Type := ylw
def Wk (k0 : yt9 → Option R) (again : Wj → Option R) (t3 : Wj) : Option R :=
 bif (decide (t3.1 > (0 : Int))) then Option.bind (zM (t3.2.1, t3.2.2.1, t3.2.2.2.1)) fun r2 => Option.bind (zp (t3.2.2.2.2, r2.1, r2.2.1, r2.2.2.1, r2.2.2.2.1, r2.2.2.2.2.1)) fun r3 => again ((Go.IntKind.wrap .i64 (t3.1 - (1 : Int))), r2.2.2.2.2.2.1, r2.2.2.2.2.2.2.1, r2.2.2.2.2.2.2.2, r3) else k0 t3.2
def Q7 k0 := zE (@Wk R k0) zW
def Wl (x : Qz3) : Option yly :=
 Option.bind (yc (x.1, x.2.1, x.2.2.1, (Go.IntKind.wrap .i64 (x.2.2.2 + (1 : Int))))) fun r1 => Q7 (fun x4 => some (x4.2.2.2, x4.1, x4.2.1, x4.2.2.1)) (r1.1, r1.2.1, r1.2.2.1, r1.2.2.2, ([] : List ya))
def yjo : List QF := [y45, ysl, yqz]
def y6f (t : ylw) : St := ⟨.box 900 0 :: dd 4 (.own 10000000 :: vI t.1 :: dd 14 []), [(900, .box [y3Y t.2.1, vI t.2.2.1, vI t.2.2.2.1]), (10000000, .root true 64 yk t.2.2.2.2)]⟩
def yh9 : Gk Wj := fun κ => Wk (fun t => κ (some 0) ⟨.box 900 0 :: dd 4 (.own 10000000 :: dd 15 []), [(900, .box [y3Y t.1, vI t.2.1, vI t.2.2.1]), (10000000, .root true 64 yk t.2.2.2)]⟩)
def yjp : Lp := lpC 3 (unG ylx y6f) @yh9 lpN
theorem yqE : LF yjo yjp 362 3 Tryz.f362 0 y6f @yh9 fun t => t := fun R κ again t => by kernel_rfl
theorem yqF : LK yjo yjp 362 Tryz.f362 0 := lkN (u := (unG ylx y6f)) (yr fun t => by kernel_rfl) yqE
theorem yvy : EV yjo yjp 362 Tryz.f362 yo6 qz3 ylz Wl := fun x => by kernel_rfl
def yAV : QF := ⟨362, Wl, okN (n := 1) Tryz.func362 ⟨yqF, trivial⟩ yvy⟩
def kQ (x : Qz0) : Option yi7 :=
 Option.bind (zM x) fun r1 => Option.bind (yc (r1.2.2.2.2.2.1, r1.2.2.2.2.2.2.1, r1.2.2.2.2.2.2.2, (12 : Int))) fun r2 => bif (r2.1 == (0 : Int)) then Option.bind (yt (r2.2.1, r2.2.2.1, r2.2.2.2, ([(-1 : Int), (15 : Int), (16 : Int)] : List yf))) fun r3 => some (r3.1, r1.2.1, r1.2.2.1, r1.2.2.2.1, r1.2.2.2.2.1, r3.2) else bif (r2.1 == (1 : Int)) then Option.bind (yt (r2.2.1, r2.2.2.1, r2.2.2.2, ([(0 : Int), (60 : Int), (61 : Int)] : List yf))) fun r4 => some (r1.1, r4.1, r1.2.2.1, r1.2.2.2.1, r1.2.2.2.2.1, r4.2) else bif (r2.1 == (2 : Int)) then Option.bind (yt (r2.2.1, r2.2.2.1, r2.2.2.2, ([(-1 : Int), (3 : Int)] : List yf))) fun r5 => some (r1.1, r1.2.1, r5.1, r1.2.2.2.1, r1.2.2.2.2.1, r5.2) else bif (r2.1 == (3 : Int)) then Option.bind (yt (r2.2.1, r2.2.2.1, r2.2.2.2, ([(-1 : Int), (1 : Int), (23 : Int), (24 : Int)] : List yf))) fun r6 => some (r1.1, r1.2.1, r1.2.2.1, r6.1, r1.2.2.2.2.1, r6.2) else bif (r2.1 == (4 : Int)) then Option.bind (yt (r2.2.1, r2.2.2.1, r2.2.2.2, ([(-1 : Int), (1 : Int), (999 : Int), (1000 : Int)] : List yf))) fun r7 => some (r1.1, r1.2.1, r1.2.2.1, r1.2.2.2.1, r7) else some (r1.1, r1.2.1, r1.2.2.1, r1.2.2.2.1, r1.2.2.2.2.1, r2.2)
theorem yvz : EV [q90, y45, yqz] lpN 363 Tryz.f363 yo7 qz0 yi8 kQ := fun x => by kernel_rfl
def yAW : QF := ⟨363, kQ, okN (n := 0) Tryz.func363 trivial yvz⟩
def kR (x : Qz3) : Option yly :=
 Option.bind (Wl x) fun r1 => Option.bind (yc (r1.2.1, r1.2.2.1, r1.2.2.2, (8 : Int))) fun r2 => bif (r2.1 == (0 : Int)) then Option.bind (kQ r2.2) fun r3 => if (List.length r1.1 + List.length ([(r3.1, r3.2.1, r3.2.2.1, r3.2.2.2.1, r3.2.2.2.2.1)] : List ya)) * 40 < 140737488355328 then some ((r1.1 ++ ([(r3.1, r3.2.1, r3.2.2.1, r3.2.2.2.1, r3.2.2.2.2.1)] : List ya)), r3.2.2.2.2.2.1, r3.2.2.2.2.2.2.1, r3.2.2.2.2.2.2.2) else none else bif (r2.1 == (1 : Int)) then bif (decide ((List.length r1.1 : Int) > (1 : Int))) then if (0 : Int) ≤ (0 : Int) then if (0 : Int) < (List.length r1.1 : Int) then if (0 : Int) ≤ (1 : Int) then if (1 : Int) < (List.length r1.1 : Int) then if (0 : Int) ≤ (0 : Int) then if (0 : Int) < (List.length r1.1 : Int) then if (0 : Int) ≤ (1 : Int) then if (1 : Int) < ((List.length (List.set r1.1 (Int.toNat (0 : Int)) ((y8 r1.1 (1 : Int)).1, (y8 r1.1 (1 : Int)).2.1, (y8 r1.1 (1 : Int)).2.2.1, (y8 r1.1 (1 : Int)).2.2.2.1, (y8 r1.1 (1 : Int)).2.2.2.2)) : Nat) : Int) then some ((List.set (List.set r1.1 (Int.toNat (0 : Int)) ((y8 r1.1 (1 : Int)).1, (y8 r1.1 (1 : Int)).2.1, (y8 r1.1 (1 : Int)).2.2.1, (y8 r1.1 (1 : Int)).2.2.2.1, (y8 r1.1 (1 : Int)).2.2.2.2)) (Int.toNat (1 : Int)) ((y8 r1.1 (0 : Int)).1, (y8 r1.1 (0 : Int)).2.1, (y8 r1.1 (0 : Int)).2.2.1, (y8 r1.1 (0 : Int)).2.2.2.1, (y8 r1.1 (0 : Int)).2.2.2.2)), r2.2.1, r2.2.2.1, r2.2.2.2) else none else none else none else none else none else none else none else none else some (r1.1, r2.2) else some (r1.1, r2.2)
theorem yvA : EV [y45, yAV, yAW] lpN 353 Tryz.f353 yo8 qz3 ylz kR := fun x => by kernel_rfl
def yAX : QF := ⟨353, kR, okN (n := 0) Tryz.func353 trivial yvA⟩
def wI (x : Qz0) : Option ylu :=
 Option.bind (Wi x) fun r1 => Option.bind (yc (r1.2.1, r1.2.2.1, r1.2.2.2, (8 : Int))) fun r2 => bif (r2.1 == (0 : Int)) then Option.bind (kR (r2.2.1, r2.2.2.1, r2.2.2.2, (6 : Int))) fun r3 => if (List.length r1.1 + List.length ([r3.1] : List yb)) * 24 < 140737488355328 then some ((r1.1 ++ ([r3.1] : List yb)), r3.2.1, r3.2.2.1, r3.2.2.2) else none else bif (r2.1 == (1 : Int)) then Option.bind (zM r2.2) fun r4 => Option.bind (zM r4.2.2.2.2.2) fun r5 => if (List.length r1.1 + List.length ([([(r4.1, r4.2.1, r4.2.2.1, r4.2.2.2.1, r4.2.2.2.2.1)] : List ya), ([(r5.1, r5.2.1, r5.2.2.1, r5.2.2.2.1, r5.2.2.2.2.1)] : List ya)] : List yb)) * 24 < 140737488355328 then some ((r1.1 ++ ([([(r4.1, r4.2.1, r4.2.2.1, r4.2.2.2.1, r4.2.2.2.2.1)] : List ya), ([(r5.1, r5.2.1, r5.2.2.1, r5.2.2.2.1, r5.2.2.2.2.1)] : List ya)] : List yb)), r5.2.2.2.2.2.1, r5.2.2.2.2.2.2.1, r5.2.2.2.2.2.2.2) else none else some (r1.1, r2.2)
theorem yvB : EV [y45, yqz, yAU, yAX] lpN 333 Tryz.f333 yo9 qz0 ylv wI := fun x => by kernel_rfl
def yAY : QF := ⟨333, wI, okN (n := 0) Tryz.func333 trivial yvB⟩
def kS (x : Qz3) : Option ylr :=
 Option.bind (Wg x) fun r1 => Option.bind (yc (r1.2.2.1, r1.2.2.2.1, r1.2.2.2.2, (12 : Int))) fun r2 => bif (r2.1 == (0 : Int)) then Option.bind (yc (r2.2.1, r2.2.2.1, r2.2.2.2, (List.length r1.1 : Int))) fun r3 => Option.bind (yt (r3.2.1, r3.2.2.1, r3.2.2.2, ([(0 : Int), (-1 : Int), (1 : Int), (300 : Int)] : List yf))) fun r4 => if (0 : Int) ≤ r3.1 then if r3.1 < (List.length r1.1 : Int) then some ((List.set r1.1 (Int.toNat r3.1) r4.1), r1.2.1, r4.2.1, r4.2.2.1, r4.2.2.2) else none else none else bif (r2.1 == (1 : Int)) then Option.bind (wI r2.2) fun r5 => if (List.length r1.2.1 + List.length ([r5.1] : List y0)) * 24 < 140737488355328 then some (r1.1, (r1.2.1 ++ ([r5.1] : List y0)), r5.2.1, r5.2.2.1, r5.2.2.2) else none else bif (r2.1 == (2 : Int)) then Option.bind (yc (r2.2.1, r2.2.2.1, r2.2.2.2, (List.length r1.2.1 : Int))) fun r6 => Option.bind (wI r6.2) fun r7 => if (0 : Int) ≤ r6.1 then if r6.1 < (List.length r1.2.1 : Int) then some (r1.1, (List.set r1.2.1 (Int.toNat r6.1) r7.1), r7.2.1, r7.2.2.1, r7.2.2.2) else none else none else bif (r2.1 == (3 : Int)) then some (([] : List yf), ([] : List y0), r2.2.1, r2.2.2.1, r2.2.2.2) else some (r1.1, r1.2.1, r2.2)
theorem yvC : EV [q90, y45, yAT, yAY] lpN 277 Tryz.f277 yoa qz3 yls kS := fun x => by kernel_rfl
def yAZ : QF := ⟨277, kS, okN (n := 0) Tryz.func277 trivial yvC⟩
def Jt (x : Qz3) : Option yta :=
 Option.bind (yc x) fun r1 => some ((r1.1 == (0 : Int)), r1.2.1, r1.2.2.1, r1.2.2.2)
theorem yvD : EV [y45] lpN 144 Tryz.f144 yob qz3 ytb Jt := fun x => by kernel_rfl
def yzl : QF := ⟨144, Jt, okN (n := 0) Tryz.func144 trivial yvD⟩
abbrev Wm : Type := yev
def Wn (k0 : ylA → Option R) (again : Wm → Option R) (t3 : Wm) : Option R :=
 bif (decide (t3.1 > (0 : Int))) then bif (decide ((List.length t3.2.2.2.2 : Int) > (0 : Int))) then Option.bind (Jt (t3.2.1, t3.2.2.1, t3.2.2.2.1, (4 : Int))) fun r2 => bif (!r2.1) then Option.bind (yc (r2.2.1, r2.2.2.1, r2.2.2.2, (List.length t3.2.2.2.2 : Int))) fun r3 => if (0 : Int) ≤ r3.1 then if r3.1 < (List.length t3.2.2.2.2 : Int) then Option.bind (yc (r3.2.1, r3.2.2.1, r3.2.2.2, (8 : Int))) fun r4 => Option.bind (zT (t3.2.2.2.2, (Go.IntKind.wrap .i64 ((1 : Int) + r4.1)), (yK t3.2.2.2.2 r3.1).1)) fun r5 => again ((Go.IntKind.wrap .i64 (t3.1 - (1 : Int))), r4.2.1, r4.2.2.1, r4.2.2.2, r5.1) else none else none else Option.bind (yc (r2.2.1, r2.2.2.1, r2.2.2.2, (8 : Int))) fun r6 => Option.bind (zT (t3.2.2.2.2, (Go.IntKind.wrap .i64 ((1 : Int) + r6.1)), (0 : Int))) fun r7 => again ((Go.IntKind.wrap .i64 (t3.1 - (1 : Int))), r6.2.1, r6.2.2.1, r6.2.2.2, r7.1) else Option.bind (yc (t3.2.1, t3.2.2.1, t3.2.2.2.1, (8 : Int))) fun r8 => Option.bind (zT (t3.2.2.2.2, (Go.IntKind.wrap .i64 ((1 : Int) + r8.1)), (0 : Int))) fun r9 => again ((Go.IntKind.wrap .i64 (t3.1 - (1 : Int))), r8.2.1, r8.2.2.1, r8.2.2.2, r9.1) else k0 t3.2
def Q8 k0 := zE (@Wn R k0) zW
def Wo (x : Qz0) : Option ylB :=
 Option.bind (yc (x.1, x.2.1, x.2.2, (8 : Int))) fun r1 => Q8 (fun x10 => some (x10.2.2.2, x10.1, x10.2.1, x10.2.2.1)) (r1.1, r1.2.1, r1.2.2.1, r1.2.2.2, ([] : List yd))
def yjq : List QF := [yzl, y45, yuC]
def y6g (t : yev) : St := ⟨.box 900 0 :: dd 2 (.own 10000000 :: vI t.1 :: dd 34 []), [(900, .box [y3Y t.2.1, vI t.2.2.1, vI t.2.2.2.1]), (10000000, .root true 146 yo t.2.2.2.2)]⟩
def yha : Gk Wm := fun κ => Wn (fun t => κ (some 0) ⟨.box 900 0 :: dd 2 (.own 10000000 :: dd 35 []), [(900, .box [y3Y t.1, vI t.2.1, vI t.2.2.1]), (10000000, .root true 146 yo t.2.2.2)]⟩)
def yjr : Lp := lpC 3 (unG yew y6g) @yha lpN
theorem yqG : LF yjq yjr 334 3 Tryz.f334 0 y6g @yha fun t => t := fun R κ again t => by kernel_rfl
theorem yqH : LK yjq yjr 334 Tryz.f334 0 := lkN (u := (unG yew y6g)) (yr fun t => by kernel_rfl) yqG
theorem yvE : EV yjq yjr 334 Tryz.f334 yoc qz0 ylC Wo := fun x => by kernel_rfl
def yB0 : QF := ⟨334, Wo, okN (n := 1) Tryz.func334 ⟨yqH, trivial⟩ yvE⟩
abbrev Wp : Type := yev
def Wq (k0 : ylA → Option R) (again : Wp → Option R) (t10 : Wp) : Option R :=
 bif (decide (t10.1 < (14 : Int))) then if (List.length t10.2.2.2.2 + List.length ([((Go.IntKind.wrap .i64 ((20 : Int) + t10.1)), (0 : Int))] : List yd)) * 16 < 140737488355328 then again ((Go.IntKind.wrap .i64 (t10.1 + (1 : Int))), t10.2.1, t10.2.2.1, t10.2.2.2.1, (t10.2.2.2.2 ++ ([((Go.IntKind.wrap .i64 ((20 : Int) + t10.1)), (0 : Int))] : List yd))) else none else k0 t10.2
def Q9 k0 := zE (@Wq R k0) zW
def kT (x : Qz0) : Option ylB :=
 Option.bind (Wo x) fun r1 => Option.bind (yc (r1.2.1, r1.2.2.1, r1.2.2.2, (8 : Int))) fun r2 => bif (r2.1 == (0 : Int)) then Option.bind (yt (r2.2.1, r2.2.2.1, r2.2.2.2, ([(0 : Int), (3 : Int), (60 : Int), (61 : Int)] : List yf))) fun r3 => Option.bind (yt (r3.2.1, r3.2.2.1, r3.2.2.2, ([(0 : Int), (1 : Int), (9 : Int), (-1 : Int)] : List yf))) fun r4 => if (List.length r1.1 + List.length ([(r3.1, r4.1)] : List yd)) * 16 < 140737488355328 then some ((r1.1 ++ ([(r3.1, r4.1)] : List yd)), r4.2.1, r4.2.2.1, r4.2.2.2) else none else bif (r2.1 == (1 : Int)) then bif (decide ((List.length r1.1 : Int) > (0 : Int))) then Option.bind (yt (r2.2.1, r2.2.2.1, r2.2.2.2, ([(1 : Int), (2 : Int), (3 : Int)] : List yf))) fun r5 => if (0 : Int) ≤ (0 : Int) then if (0 : Int) < (List.length r1.1 : Int) then some ((List.set r1.1 (Int.toNat (0 : Int)) ((yK r1.1 (0 : Int)).1, r5.1)), r5.2.1, r5.2.2.1, r5.2.2.2) else none else none else some (r1.1, r2.2) else bif (r2.1 == (2 : Int)) then Q9 (fun x6 => some (x6.2.2.2, x6.1, x6.2.1, x6.2.2.1)) ((0 : Int), r2.2.1, r2.2.2.1, r2.2.2.2, r1.1) else some (r1.1, r2.2)
def yjs : List QF := [q90, y45, yB0]
def y3l (t : yev) : St := ⟨.box 900 0 :: dd 2 (.own 10000000 :: vI t.1 :: dd 40 []), [(900, .box [y3Y t.2.1, vI t.2.2.1, vI t.2.2.2.1]), (10000000, .root true 146 yo t.2.2.2.2)]⟩
def yd1 : Gk Wp := fun κ => Wq (fun t => κ (some 1) ⟨.box 900 0 :: dd 2 (.own 10000000 :: dd 41 []), [(900, .box [y3Y t.1, vI t.2.1, vI t.2.2.1]), (10000000, .root true 146 yo t.2.2.2)]⟩)
def yjt : Lp := lpC 10 (unG yew y3l) @yd1 lpN
theorem yju : LF yjs yjt 278 10 Tryz.f278 0 y3l @yd1 fun t => t := fun R κ again t => by kernel_rfl
theorem yjv : LK yjs yjt 278 Tryz.f278 0 := lkN (u := (unG yew y3l)) (yr fun t => by kernel_rfl) yju
theorem yvF : EV yjs yjt 278 Tryz.f278 yod qz0 ylC kT := fun x => by kernel_rfl
def yB1 : QF := ⟨278, kT, okN (n := 1) Tryz.func278 ⟨yjv, trivial⟩ yvF⟩
abbrev Wr : Type := ylD
def Ws (k0 : ytc → Option R) (again : Wr → Option R) (t3 : Wr) : Option R :=
 bif (decide (t3.1 > (0 : Int))) then Option.bind (Jt (t3.2.1, t3.2.2.1, t3.2.2.2.1, (3 : Int))) fun r3 => bif r3.1 then Option.bind (yc (r3.2.1, r3.2.2.1, r3.2.2.2, (6 : Int))) fun r4 => Option.bind (YA (t3.2.2.2.2, r4.1)) fun r5 => again ((Go.IntKind.wrap .i64 (t3.1 - (1 : Int))), r4.2.1, r4.2.2.1, r4.2.2.2, r5) else Option.bind (yt (r3.2.1, r3.2.2.1, r3.2.2.2, ([(0 : Int), (5 : Int), (65535 : Int)] : List yf))) fun r6 => Option.bind (zG (t3.2.2.2.2, r6.1)) fun r7 => again ((Go.IntKind.wrap .i64 (t3.1 - (1 : Int))), r6.2.1, r6.2.2.1, r6.2.2.2, r7.1) else k0 t3.2
def Qa k0 := zE (@Ws R k0) zW
def Wt (x : Qz0) : Option ylF :=
 Option.bind (Zg ()) fun r1 => Option.bind (yc (x.1, x.2.1, x.2.2, (30 : Int))) fun r2 => Qa (fun x8 => some (x8.2.2.2, x8.1, x8.2.1, x8.2.2.1)) (r2.1, r2.2.1, r2.2.2.1, r2.2.2.2, r1)
def yjw : List QF := [q90, yuH, yuW, yzl, y45, yz2]
def y6h (t : ylD) : St := ⟨.box 900 0 :: dd 2 (.own 10000000 :: vI t.1 :: dd 23 []), [(900, .box [y3Y t.2.1, vI t.2.2.1, vI t.2.2.2.1]), (10000000, .root true 113 ye t.2.2.2.2)]⟩
def yhb : Gk Wr := fun κ => Ws (fun t => κ (some 0) ⟨.box 900 0 :: dd 2 (.own 10000000 :: dd 24 []), [(900, .box [y3Y t.1, vI t.2.1, vI t.2.2.1]), (10000000, .root true 113 ye t.2.2.2)]⟩)
def yjx : Lp := lpC 3 (unG ylE y6h) @yhb lpN
theorem yqI : LF yjw yjx 335 3 Tryz.f335 0 y6h @yhb fun t => t := fun R κ again t => by kernel_rfl
theorem yqJ : LK yjw yjx 335 Tryz.f335 0 := lkN (u := (unG ylE y6h)) (yr fun t => by kernel_rfl) yqI
theorem yvG : EV yjw yjx 335 Tryz.f335 yoe qz0 ylG Wt := fun x => by kernel_rfl
def yB2 : QF := ⟨335, Wt, okN (n := 1) Tryz.func335 ⟨yqJ, trivial⟩ yvG⟩
def kU (x : Qz0) : Option ylF :=
 Option.bind (Wt x) fun r1 => Option.bind (yc (r1.2.1, r1.2.2.1, r1.2.2.2, (10 : Int))) fun r2 => bif (r2.1 == (0 : Int)) then if (0 : Int) ≤ (1 : Int) then if (1 : Int) ≤ (List.length r1.1 : Int) then if (List.length r1.1 : Int) ≤ (List.length r1.1 : Int) then some ((List.drop (Int.toNat (1 : Int)) (List.take (Int.toNat (List.length r1.1 : Int)) r1.1)), r2.2.1, r2.2.2.1, r2.2.2.2) else none else none else none else bif (r2.1 == (1 : Int)) then Option.bind (yc (r2.2.1, r2.2.2.1, r2.2.2.2, (List.length r1.1 : Int))) fun r3 => Option.bind (yt (r3.2.1, r3.2.2.1, r3.2.2.2, ([(-1 : Int), (999 : Int), (1000 : Int)] : List yf))) fun r4 => if (0 : Int) ≤ r3.1 then if r3.1 < (List.length r1.1 : Int) then some ((List.set r1.1 (Int.toNat r3.1) (r4.1, (yj r1.1 r3.1).2)), r4.2.1, r4.2.2.1, r4.2.2.2) else none else none else bif (r2.1 == (2 : Int)) then Option.bind (yc (r2.2.1, r2.2.2.1, r2.2.2.2, (List.length r1.1 : Int))) fun r5 => Option.bind (yt (r5.2.1, r5.2.2.1, r5.2.2.2, ([(-1 : Int), (5 : Int), (65536 : Int)] : List yf))) fun r6 => if (0 : Int) ≤ r5.1 then if r5.1 < (List.length r1.1 : Int) then some ((List.set r1.1 (Int.toNat r5.1) ((yj r1.1 r5.1).1, (yj r1.1 r5.1).2.1, r6.1)), r6.2.1, r6.2.2.1, r6.2.2.2) else none else none else bif (r2.1 == (3 : Int)) then if (0 : Int) ≤ (0 : Int) then if (0 : Int) < (List.length r1.1 : Int) then some ((List.set r1.1 (Int.toNat (0 : Int)) ((999 : Int), (yj r1.1 (0 : Int)).2)), r2.2.1, r2.2.2.1, r2.2.2.2) else none else none else some (r1.1, r2.2)
theorem yvH : EV [q90, y45, yB2] lpN 279 Tryz.f279 yof qz0 ylG kU := fun x => by kernel_rfl
def yB3 : QF := ⟨279, kU, okN (n := 0) Tryz.func279 trivial yvH⟩
def Ju (x : Qz3) : Option yln :=
 Option.bind (JR x) fun r1 => Option.bind (yc (r1.2.2.2.2.2.2.1, r1.2.2.2.2.2.2.2.1, r1.2.2.2.2.2.2.2.2, (20 : Int))) fun r2 => bif (r2.1 == (0 : Int)) then Option.bind (kS (r2.2.1, r2.2.2.1, r2.2.2.2, (6 : Int))) fun r3 => some (r3.1, r3.2.1, r1.2.2.1, r1.2.2.2.1, r1.2.2.2.2.1, r1.2.2.2.2.2.1, r3.2.2) else bif (r2.1 == (1 : Int)) then Option.bind (kT r2.2) fun r4 => some (r1.1, r1.2.1, r4.1, r1.2.2.2.1, r1.2.2.2.2.1, r1.2.2.2.2.2.1, r4.2) else bif (r2.1 == (2 : Int)) then Option.bind (kU r2.2) fun r5 => some (r1.1, r1.2.1, r1.2.2.1, r5.1, r1.2.2.2.2.1, r1.2.2.2.2.2.1, r5.2) else bif (r2.1 == (3 : Int)) then Option.bind (jF (r2.2.1, r2.2.2.1, r2.2.2.2, ([{ data := #[97] }, { data := #[122, 122] }, { data := #[65] }] : List VO))) fun r6 => Option.bind (yc (r6.2.1, r6.2.2.1, r6.2.2.2, (4 : Int))) fun r7 => Option.bind (yt (r7.2.1, r7.2.2.1, r7.2.2.2, ([(0 : Int), (1 : Int), (13 : Int)] : List yf))) fun r8 => if (List.length r1.2.2.2.2.1 + List.length ([(r6.1, (Go.IntKind.wrap .i64 ((1 : Int) + r7.1)), r8.1, false)] : List ym)) * 40 < 140737488355328 then some (r1.1, r1.2.1, r1.2.2.1, r1.2.2.2.1, (r1.2.2.2.2.1 ++ ([(r6.1, (Go.IntKind.wrap .i64 ((1 : Int) + r7.1)), r8.1, false)] : List ym)), r1.2.2.2.2.2.1, r8.2.1, r8.2.2.1, r8.2.2.2) else none else bif (r2.1 == (4 : Int)) then Option.bind (yt (r2.2.1, r2.2.2.1, r2.2.2.2, ([(0 : Int), (1 : Int), (60 : Int), (61 : Int), (62 : Int)] : List yf))) fun r9 => some (r1.1, r1.2.1, r1.2.2.1, r1.2.2.2.1, r1.2.2.2.2.1, r9) else bif (r2.1 == (5 : Int)) then Option.bind (yc (r2.2.1, r2.2.2.1, r2.2.2.2, (List.length r1.2.2.2.1 : Int))) fun r10 => if (0 : Int) ≤ r10.1 then if r10.1 < (List.length r1.2.2.2.1 : Int) then some (r1.1, r1.2.1, r1.2.2.1, (List.set r1.2.2.2.1 (Int.toNat r10.1) ((yj r1.2.2.2.1 r10.1).1, true, (yj r1.2.2.2.1 r10.1).2.2)), r1.2.2.2.2.1, r1.2.2.2.2.2.1, r10.2.1, r10.2.2.1, r10.2.2.2) else none else none else bif (r2.1 == (6 : Int)) then bif (decide ((List.length r1.2.2.2.2.1 : Int) > (0 : Int))) then Option.bind (yc (r2.2.1, r2.2.2.1, r2.2.2.2, (6 : Int))) fun r11 => if (0 : Int) ≤ (0 : Int) then if (0 : Int) < (List.length r1.2.2.2.2.1 : Int) then some (r1.1, r1.2.1, r1.2.2.1, r1.2.2.2.1, (List.set r1.2.2.2.2.1 (Int.toNat (0 : Int)) ((yq r1.2.2.2.2.1 (0 : Int)).1, (Go.IntKind.wrap .i64 ((1 : Int) + r11.1)), (yq r1.2.2.2.2.1 (0 : Int)).2.2)), r1.2.2.2.2.2.1, r11.2.1, r11.2.2.1, r11.2.2.2) else none else none else some (r1.1, r1.2.1, r1.2.2.1, r1.2.2.2.1, r1.2.2.2.2.1, r1.2.2.2.2.2.1, r2.2) else some (r1.1, r1.2.1, r1.2.2.1, r1.2.2.2.1, r1.2.2.2.2.1, r1.2.2.2.2.2.1, r2.2)
theorem yvI : EV [q90, yAR, y45, ytO, yAZ, yB1, yB3] lpN 165 Tryz.f165 yog qz3 ylo Ju := fun x => by kernel_rfl
def yzm : QF := ⟨165, Ju, okN (n := 0) Tryz.func165 trivial yvI⟩
def jn (x : List vu) : Option ytd :=
 Option.bind (kM x) fun r1 => Option.bind (Ji (x, (14 : Int))) fun r2 => Option.bind (Ju (r1.1, r1.2.1, r1.2.2, r2)) fun r3 => some (r3.2.2.2.2.2.2.1, r3.2.2.2.2.2.2.2.1, r3.2.2.2.2.2.2.2.2, r3.1, r3.2.1, r3.2.2.1, r3.2.2.2.1, r3.2.2.2.2.1, r3.2.2.2.2.2.1)
theorem yB4 : EV [yyY, yyZ, yzm] lpN 89 Tryz.f89 yyF [(.sl 5 Ym)] yte jn := fun x => by kernel_rfl
def q89 : QF := ⟨89, jn, okN (n := 0) Tryz.func89 trivial yB4⟩
def YC (x : List vu) : Option y7c :=
 Option.bind (jn x) fun r1 => Option.bind (yt (r1.1, r1.2.1, r1.2.2.1, ([(0 : Int), (0 : Int), (1 : Int), (2 : Int), (-1 : Int), (12 : Int)] : List yf))) fun r2 => some (r1.2.2.2.1, r1.2.2.2.2.1, r1.2.2.2.2.2.1, r1.2.2.2.2.2.2.1, r1.2.2.2.2.2.2.2.1, r1.2.2.2.2.2.2.2.2, r2.1)
theorem yB5 : EV [q89, q90] lpN 10 Tryz.f10 yyG [(.sl 5 Ym)] y7d YC := fun x => by kernel_rfl
def q10 : QF := ⟨10, YC, okN (n := 0) Tryz.func10 trivial yB5⟩
def yF (x : ysI) : Option Bool :=
 Option.bind (bif (decide (x.1 ≥ x.2.1)) then some (decide (x.1 ≤ x.2.2)) else some false) fun u1 => some u1
theorem yB6 : EV [] lpN 92 Tryz.f92 yyH ysJ [.bool] yF := fun x => by kernel_rfl
def q92 : QF := ⟨92, yF, okN (n := 0) Tryz.func92 trivial yB6⟩
def jo (x : ys8) : Option Bool :=
 Option.bind (bif (decide (x.1 < x.2.2.2.2.2.1)) then some true else Option.bind (bif (x.1 == x.2.2.2.2.2.1) then some (decide (x.2.1 < x.2.2.2.2.2.2.1)) else some false) fun u2 => some u2) fun u1 => some u1
theorem yvJ : EV [] lpN 342 Tryz.f342 yoh ys9 [.bool] jo := fun x => by kernel_rfl
def yzn : QF := ⟨342, jo, okN (n := 0) Tryz.func342 trivial yvJ⟩
def Zo (x : ys8) : Option Bool :=
 Option.bind (bif (x.1 == x.2.2.2.2.2.1) then some (x.2.1 == x.2.2.2.2.2.2.1) else some false) fun u1 => some u1
theorem yvK : EV [] lpN 343 Tryz.f343 yoi ys9 [.bool] Zo := fun x => by kernel_rfl
def yB7 : QF := ⟨343, Zo, okN (n := 0) Tryz.func343 trivial yvK⟩
abbrev Wu : Type := ylH
def YD (k0 : yxn → Option R) (again : Wu → Option R) (t4 : Wu) : Option R :=
 bif (decide (t4.2.2.2.1 < t4.2.2.1)) then if (0 : Int) ≤ t4.2.2.2.1 then if t4.2.2.2.1 < (List.length t4.2.1 : Int) then Option.bind (bif (!t4.1) then Option.bind (jo ((y8 t4.2.1 t4.2.2.2.1).1, (y8 t4.2.1 t4.2.2.2.1).2.1, (y8 t4.2.1 t4.2.2.2.1).2.2.1, (y8 t4.2.1 t4.2.2.2.1).2.2.2.1, (y8 t4.2.1 t4.2.2.2.1).2.2.2.2, t4.2.2.2.2.1, t4.2.2.2.2.2.1, t4.2.2.2.2.2.2.1, t4.2.2.2.2.2.2.2.1, t4.2.2.2.2.2.2.2.2.1)) fun r2 => some (!r2) else some false) fun u1 => bif u1 then if (List.length t4.2.2.2.2.2.2.2.2.2 + List.length ([(t4.2.2.2.2.1, t4.2.2.2.2.2.1, t4.2.2.2.2.2.2.1, t4.2.2.2.2.2.2.2.1, t4.2.2.2.2.2.2.2.2.1)] : List ya)) * 40 < 140737488355328 then Option.bind (Zo ((y8 t4.2.1 t4.2.2.2.1).1, (y8 t4.2.1 t4.2.2.2.1).2.1, (y8 t4.2.1 t4.2.2.2.1).2.2.1, (y8 t4.2.1 t4.2.2.2.1).2.2.2.1, (y8 t4.2.1 t4.2.2.2.1).2.2.2.2, t4.2.2.2.2.1, t4.2.2.2.2.2.1, t4.2.2.2.2.2.2.1, t4.2.2.2.2.2.2.2.1, t4.2.2.2.2.2.2.2.2.1)) fun r3 => bif (!r3) then if (List.length (t4.2.2.2.2.2.2.2.2.2 ++ ([(t4.2.2.2.2.1, t4.2.2.2.2.2.1, t4.2.2.2.2.2.2.1, t4.2.2.2.2.2.2.2.1, t4.2.2.2.2.2.2.2.2.1)] : List ya)) + List.length ([((y8 t4.2.1 t4.2.2.2.1).1, (y8 t4.2.1 t4.2.2.2.1).2.1, (y8 t4.2.1 t4.2.2.2.1).2.2.1, (y8 t4.2.1 t4.2.2.2.1).2.2.2.1, (y8 t4.2.1 t4.2.2.2.1).2.2.2.2)] : List ya)) * 40 < 140737488355328 then again (true, t4.2.1, t4.2.2.1, (Go.IntKind.wrap .i64 (t4.2.2.2.1 + (1 : Int))), t4.2.2.2.2.1, t4.2.2.2.2.2.1, t4.2.2.2.2.2.2.1, t4.2.2.2.2.2.2.2.1, t4.2.2.2.2.2.2.2.2.1, ((t4.2.2.2.2.2.2.2.2.2 ++ ([(t4.2.2.2.2.1, t4.2.2.2.2.2.1, t4.2.2.2.2.2.2.1, t4.2.2.2.2.2.2.2.1, t4.2.2.2.2.2.2.2.2.1)] : List ya)) ++ ([((y8 t4.2.1 t4.2.2.2.1).1, (y8 t4.2.1 t4.2.2.2.1).2.1, (y8 t4.2.1 t4.2.2.2.1).2.2.1, (y8 t4.2.1 t4.2.2.2.1).2.2.2.1, (y8 t4.2.1 t4.2.2.2.1).2.2.2.2)] : List ya))) else none else again (true, t4.2.1, t4.2.2.1, (Go.IntKind.wrap .i64 (t4.2.2.2.1 + (1 : Int))), t4.2.2.2.2.1, t4.2.2.2.2.2.1, t4.2.2.2.2.2.2.1, t4.2.2.2.2.2.2.2.1, t4.2.2.2.2.2.2.2.2.1, (t4.2.2.2.2.2.2.2.2.2 ++ ([(t4.2.2.2.2.1, t4.2.2.2.2.2.1, t4.2.2.2.2.2.2.1, t4.2.2.2.2.2.2.2.1, t4.2.2.2.2.2.2.2.2.1)] : List ya))) else none else Option.bind (Zo ((y8 t4.2.1 t4.2.2.2.1).1, (y8 t4.2.1 t4.2.2.2.1).2.1, (y8 t4.2.1 t4.2.2.2.1).2.2.1, (y8 t4.2.1 t4.2.2.2.1).2.2.2.1, (y8 t4.2.1 t4.2.2.2.1).2.2.2.2, t4.2.2.2.2.1, t4.2.2.2.2.2.1, t4.2.2.2.2.2.2.1, t4.2.2.2.2.2.2.2.1, t4.2.2.2.2.2.2.2.2.1)) fun r4 => bif (!r4) then if (List.length t4.2.2.2.2.2.2.2.2.2 + List.length ([((y8 t4.2.1 t4.2.2.2.1).1, (y8 t4.2.1 t4.2.2.2.1).2.1, (y8 t4.2.1 t4.2.2.2.1).2.2.1, (y8 t4.2.1 t4.2.2.2.1).2.2.2.1, (y8 t4.2.1 t4.2.2.2.1).2.2.2.2)] : List ya)) * 40 < 140737488355328 then again (t4.1, t4.2.1, t4.2.2.1, (Go.IntKind.wrap .i64 (t4.2.2.2.1 + (1 : Int))), t4.2.2.2.2.1, t4.2.2.2.2.2.1, t4.2.2.2.2.2.2.1, t4.2.2.2.2.2.2.2.1, t4.2.2.2.2.2.2.2.2.1, (t4.2.2.2.2.2.2.2.2.2 ++ ([((y8 t4.2.1 t4.2.2.2.1).1, (y8 t4.2.1 t4.2.2.2.1).2.1, (y8 t4.2.1 t4.2.2.2.1).2.2.1, (y8 t4.2.1 t4.2.2.2.1).2.2.2.1, (y8 t4.2.1 t4.2.2.2.1).2.2.2.2)] : List ya))) else none else again (t4.1, t4.2.1, t4.2.2.1, (Go.IntKind.wrap .i64 (t4.2.2.2.1 + (1 : Int))), t4.2.2.2.2.1, t4.2.2.2.2.2.1, t4.2.2.2.2.2.2.1, t4.2.2.2.2.2.2.2.1, t4.2.2.2.2.2.2.2.2.1, t4.2.2.2.2.2.2.2.2.2) else none else none else k0 (t4.1, t4.2.2.2.2)
def KX k0 := zE (@YD R k0) zW
def ZR (x : yxo) : Option (List ya) :=
 KX (fun x5 => bif (!x5.1) then if (List.length x5.2.2.2.2.2.2 + List.length ([(x5.2.1, x5.2.2.1, x5.2.2.2.1, x5.2.2.2.2.1, x5.2.2.2.2.2.1)] : List ya)) * 40 < 140737488355328 then some (x5.2.2.2.2.2.2 ++ ([(x5.2.1, x5.2.2.1, x5.2.2.2.1, x5.2.2.2.2.1, x5.2.2.2.2.2.1)] : List ya)) else none else some x5.2.2.2.2.2.2) (false, x.1, (List.length x.1 : Int), (0 : Int), x.2.1, x.2.2.1, x.2.2.2.1, x.2.2.2.2.1, x.2.2.2.2.2, ([] : List ya))
def yjy : List QF := [yzn, yB7]
def y6i (t : ylH) : St := ⟨dd 3 (.box 3 0 :: .dead :: .own 10000000 :: vB t.1 :: dd 3 (VN t.2.1 :: vI t.2.2.1 :: vI t.2.2.2.1 :: dd 31 [])), [(3, .box [vI t.2.2.2.2.1, vI t.2.2.2.2.2.1, vI t.2.2.2.2.2.2.1, vI t.2.2.2.2.2.2.2.1, vI t.2.2.2.2.2.2.2.2.1]), (10000000, .root true 64 yk t.2.2.2.2.2.2.2.2.2)]⟩
def yhc : Gk Wu := fun κ => YD (fun t => κ (some 0) ⟨dd 3 (.box 3 0 :: .dead :: .own 10000000 :: vB t.1 :: dd 37 []), [(3, .box [vI t.2.1, vI t.2.2.1, vI t.2.2.2.1, vI t.2.2.2.2.1, vI t.2.2.2.2.2.1]), (10000000, .root true 64 yk t.2.2.2.2.2.2)]⟩)
def yjz : Lp := lpC 4 (unG ylI y6i) @yhc lpN
theorem yqK : LF yjy yjz 302 4 Tryz.f302 0 y6i @yhc fun t => t := fun R κ again t => by kernel_rfl
theorem yqL : LK yjy yjz 302 Tryz.f302 0 := lkN (u := (unG ylI y6i)) (yr fun t => by kernel_rfl) yqK
theorem yvL : EV yjy yjz 302 Tryz.f302 yoj yxp [(.sl 64 yk)] ZR := fun x => by kernel_rfl
def yvM : QF := ⟨302, ZR, okN (n := 1) Tryz.func302 ⟨yqL, trivial⟩ yvL⟩
def zU (x : List ya) : Option (List ya) :=
 if (List.length ([] : List ya) + List.length x) * 40 < 140737488355328 then some (([] : List ya) ++ x) else none
theorem yvN : EV [] lpN 303 Tryz.f303 yok [(.sl 64 yk)] [(.sl 64 yk)] zU := fun x => by kernel_rfl
def yvO : QF := ⟨303, zU, okN (n := 0) Tryz.func303 trivial yvN⟩
abbrev Wv : Type := yex
def YY (k0 : List ya → Option R) (again : Wv → Option R) (t3 : Wv) : Option R :=
 bif (decide (t3.2.2.1 < t3.2.1)) then if (0 : Int) ≤ t3.2.2.1 then if t3.2.2.1 < (List.length t3.1 : Int) then Option.bind (ZR (t3.2.2.2, (y8 t3.1 t3.2.2.1).1, (y8 t3.1 t3.2.2.1).2.1, (y8 t3.1 t3.2.2.1).2.2.1, (y8 t3.1 t3.2.2.1).2.2.2.1, (y8 t3.1 t3.2.2.1).2.2.2.2)) fun r2 => again (t3.1, t3.2.1, (Go.IntKind.wrap .i64 (t3.2.2.1 + (1 : Int))), r2) else none else none else k0 t3.2.2.2
def vL k0 := zE (@YY R k0) zW
def YN (x : ysK) : Option (List ya) :=
 Option.bind (zU x.1) fun r1 => vL (fun x3 => some x3) (x.2, (List.length x.2 : Int), (0 : Int), r1)
def yjA : List QF := [yvM, yvO]
def y6j (t : yex) : St := ⟨dd 5 (.own 10000000 :: dd 4 (VN t.1 :: vI t.2.1 :: vI t.2.2.1 :: dd 8 [])), [(10000000, .root true 64 yk t.2.2.2)]⟩
def yhd : Gk Wv := fun κ => YY (fun t => κ (some 0) ⟨dd 5 (.own 10000000 :: dd 15 []), [(10000000, .root true 64 yk t)]⟩)
def yjB : Lp := lpC 3 (unG yey y6j) @yhd lpN
theorem yqM : LF yjA yjB 249 3 Tryz.f249 0 y6j @yhd fun t => t := fun R κ again t => by kernel_rfl
theorem yqN : LK yjA yjB 249 Tryz.f249 0 := lkN (u := (unG yey y6j)) (yr fun t => by kernel_rfl) yqM
theorem yvP : EV yjA yjB 249 Tryz.f249 yol ysL [(.sl 64 yk)] YN := fun x => by kernel_rfl
def yB8 : QF := ⟨249, YN, okN (n := 1) Tryz.func249 ⟨yqN, trivial⟩ yvP⟩
abbrev VR : Type := yex
def Ww (k0 : List ya → Option R) (again : VR → Option R) (t3 : VR) : Option R :=
 bif (decide (t3.2.2.1 < t3.2.1)) then if (0 : Int) ≤ t3.2.2.1 then if t3.2.2.1 < (List.length t3.1 : Int) then bif ((y8 t3.1 t3.2.2.1).2.2.1 != (0 : Int)) then if (List.length t3.2.2.2 + List.length ([((y8 t3.1 t3.2.2.1).1, (y8 t3.1 t3.2.2.1).2.1, (y8 t3.1 t3.2.2.1).2.2.1, (y8 t3.1 t3.2.2.1).2.2.2.1, (y8 t3.1 t3.2.2.1).2.2.2.2)] : List ya)) * 40 < 140737488355328 then again (t3.1, t3.2.1, (Go.IntKind.wrap .i64 (t3.2.2.1 + (1 : Int))), (t3.2.2.2 ++ ([((y8 t3.1 t3.2.2.1).1, (y8 t3.1 t3.2.2.1).2.1, (y8 t3.1 t3.2.2.1).2.2.1, (y8 t3.1 t3.2.2.1).2.2.2.1, (y8 t3.1 t3.2.2.1).2.2.2.2)] : List ya))) else none else again (t3.1, t3.2.1, (Go.IntKind.wrap .i64 (t3.2.2.1 + (1 : Int))), t3.2.2.2) else none else none else k0 t3.2.2.2
def y0L k0 := zE (@Ww R k0) zW
def jV (x : List ya) : Option (List ya) :=
 y0L (fun x1 => some x1) (x, (List.length x : Int), (0 : Int), ([] : List ya))
def yjC : List QF := []
def y6k (t : yex) : St := ⟨dd 3 (.own 10000000 :: dd 3 (VN t.1 :: vI t.2.1 :: vI t.2.2.1 :: dd 12 [])), [(10000000, .root true 64 yk t.2.2.2)]⟩
def yhe : Gk VR := fun κ => Ww (fun t => κ (some 0) ⟨dd 3 (.own 10000000 :: dd 18 []), [(10000000, .root true 64 yk t)]⟩)
def yjD : Lp := lpC 3 (unG yey y6k) @yhe lpN
theorem yqO : LF yjC yjD 250 3 Tryz.f250 0 y6k @yhe fun t => t := fun R κ again t => by kernel_rfl
theorem yqP : LK yjC yjD 250 Tryz.f250 0 := lkN (u := (unG yey y6k)) (yr fun t => by kernel_rfl) yqO
theorem yvQ : EV yjC yjD 250 Tryz.f250 yom [(.sl 64 yk)] [(.sl 64 yk)] jV := fun x => by kernel_rfl
def yzo : QF := ⟨250, jV, okN (n := 1) Tryz.func250 ⟨yqP, trivial⟩ yvQ⟩
abbrev k9 : Type := ylJ
def Zp (k0 : List ya → Option R) (again : k9 → Option R) (t3 : k9) : Option R :=
 bif (decide (t3.2.2.1 < t3.2.1)) then if (0 : Int) ≤ t3.2.2.1 then if t3.2.2.1 < (List.length t3.1 : Int) then Option.bind (YN (t3.2.2.2, (yp t3.1 t3.2.2.1))) fun r1 => again (t3.1, t3.2.1, (Go.IntKind.wrap .i64 (t3.2.2.1 + (1 : Int))), r1) else none else none else k0 t3.2.2.2
def Vk k0 := zE (@Zp R k0) zW
def yH (x : List yb) : Option (List ya) :=
 Vk (fun x2 => Option.bind (jV x2) fun r3 => some r3) (x, (List.length x : Int), (0 : Int), ([] : List ya))
def yjE : List QF := [yB8, yzo]
def y6l (t : ylJ) : St := ⟨dd 3 (.own 10000000 :: dd 4 (Yj t.1 :: vI t.2.1 :: vI t.2.2.1 :: dd 9 [])), [(10000000, .root true 64 yk t.2.2.2)]⟩
def yhf : Gk k9 := fun κ => Zp (fun t => κ (some 0) ⟨dd 3 (.own 10000000 :: dd 16 []), [(10000000, .root true 64 yk t)]⟩)
def yjF : Lp := lpC 3 (unG ylK y6l) @yhf lpN
theorem yqQ : LF yjE yjF 127 3 Tryz.f127 0 y6l @yhf fun t => t := fun R κ again t => by kernel_rfl
theorem yqR : LK yjE yjF 127 Tryz.f127 0 := lkN (u := (unG ylK y6l)) (yr fun t => by kernel_rfl) yqQ
theorem yvR : EV yjE yjF 127 Tryz.f127 yon [(.sl 58 yn)] [(.sl 64 yk)] yH := fun x => by kernel_rfl
def ykR : QF := ⟨127, yH, okN (n := 1) Tryz.func127 ⟨yqR, trivial⟩ yvR⟩
def wJ (x : yes) : Option Bool :=
 Option.bind (yF (x.1, (0 : Int), (15 : Int))) fun r1 => Option.bind (bif (!r1) then some true else Option.bind (yF (x.2.1, (1 : Int), (60 : Int))) fun r3 => some (!r3)) fun u2 => Option.bind (bif u2 then some true else Option.bind (yF (x.2.2.1, (0 : Int), (2 : Int))) fun r5 => some (!r5)) fun u4 => bif u4 then some false else bif (x.2.2.1 != (1 : Int)) then Option.bind (bif (x.2.2.2.1 == (0 : Int)) then some (x.2.2.2.2 == (0 : Int)) else some false) fun u6 => some u6 else Option.bind (yF (x.2.2.2.1, (0 : Int), (23 : Int))) fun r7 => Option.bind (bif r7 then Option.bind (yF (x.2.2.2.2, (0 : Int), (999 : Int))) fun r9 => some r9 else some false) fun u8 => some u8
theorem yvS : EV [q92] lpN 218 Tryz.f218 yoo VA [.bool] wJ := fun x => by kernel_rfl
def yzp : QF := ⟨218, wJ, okN (n := 0) Tryz.func218 trivial yvS⟩
abbrev vY : Type := ylL
def JS (k0 : yxu → Option R) (k1 : List ya → Option R) (again : vY → Option R) (t2 : vY) : Option R :=
 bif (decide (t2.2.2.2 < t2.2.2.1)) then if (0 : Int) ≤ t2.2.2.2 then if t2.2.2.2 < (List.length t2.2.1 : Int) then Option.bind (wJ ((y8 t2.2.1 t2.2.2.2).1, (y8 t2.2.1 t2.2.2.2).2.1, (y8 t2.2.1 t2.2.2.2).2.2.1, (y8 t2.2.1 t2.2.2.2).2.2.2.1, (y8 t2.2.1 t2.2.2.2).2.2.2.2)) fun r1 => Option.bind (bif (!r1) then some true else Option.bind (bif (decide (t2.2.2.2 > (0 : Int))) then if (0 : Int) ≤ (Go.IntKind.wrap .i64 (t2.2.2.2 - (1 : Int))) then if (Go.IntKind.wrap .i64 (t2.2.2.2 - (1 : Int))) < (List.length t2.1 : Int) then Option.bind (jo ((y8 t2.1 (Go.IntKind.wrap .i64 (t2.2.2.2 - (1 : Int)))).1, (y8 t2.1 (Go.IntKind.wrap .i64 (t2.2.2.2 - (1 : Int)))).2.1, (y8 t2.1 (Go.IntKind.wrap .i64 (t2.2.2.2 - (1 : Int)))).2.2.1, (y8 t2.1 (Go.IntKind.wrap .i64 (t2.2.2.2 - (1 : Int)))).2.2.2.1, (y8 t2.1 (Go.IntKind.wrap .i64 (t2.2.2.2 - (1 : Int)))).2.2.2.2, (y8 t2.2.1 t2.2.2.2).1, (y8 t2.2.1 t2.2.2.2).2.1, (y8 t2.2.1 t2.2.2.2).2.2.1, (y8 t2.2.1 t2.2.2.2).2.2.2.1, (y8 t2.2.1 t2.2.2.2).2.2.2.2)) fun r4 => some (!r4) else none else none else some false) fun u3 => some u3) fun u2 => bif u2 then k0 (t2.1, false) else again (t2.1, t2.2.1, t2.2.2.1, (Go.IntKind.wrap .i64 (t2.2.2.2 + (1 : Int)))) else none else none else k1 t2.1
def y01 k0 k1 := zE (@JS R k0 k1) zW
def kV (x : List ya) : Option Bool :=
 y01 (fun x5 => some x5.2) (fun x6 => some (decide ((List.length x6 : Int) ≤ (60 : Int)))) (x, x, (List.length x : Int), (0 : Int))
def yjG : List QF := [yzp, yzn]
def y6m (t : ylL) : St := ⟨VN t.1 :: dd 4 (VN t.2.1 :: vI t.2.2.1 :: vI t.2.2.2 :: dd 25 []), []⟩
def yhg : Gk vY := fun κ => JS (fun t => κ none ⟨VN t.1 :: .dead :: vB t.2 :: dd 30 [], []⟩) (fun t => κ (some 0) ⟨VN t :: dd 32 [], []⟩)
def yjH : Lp := lpC 2 (unG ylM y6m) @yhg lpN
theorem yqS : LF yjG yjH 323 2 Tryz.f323 0 y6m @yhg fun t => t := fun R κ again t => by kernel_rfl
theorem yqT : LK yjG yjH 323 Tryz.f323 0 := lkN (u := (unG ylM y6m)) (yr fun t => by kernel_rfl) yqS
theorem yvT : EV yjG yjH 323 Tryz.f323 yop [(.sl 64 yk)] [.bool] kV := fun x => by kernel_rfl
def yB9 : QF := ⟨323, kV, okN (n := 1) Tryz.func323 ⟨yqT, trivial⟩ yvT⟩
abbrev KY : Type := ylN
def jW (k0 : ytf → Option R) (k1 : ygp → Option R) (again : KY → Option R) (t3 : KY) : Option R :=
 bif (decide (t3.2.2.2.1 < t3.2.2.1)) then if (0 : Int) ≤ t3.2.2.2.1 then if t3.2.2.2.1 < (List.length t3.2.1 : Int) then Option.bind (kV (yp t3.2.1 t3.2.2.2.1)) fun r1 => Option.bind (bif (!r1) then some true else some ((List.length (yp t3.2.1 t3.2.2.2.1) : Int) == (0 : Int))) fun u2 => bif u2 then k0 (false, t3.1, t3.2.2.2.2) else again ((Go.IntKind.wrap .i64 (t3.1 + (List.length (yp t3.2.1 t3.2.2.2.1) : Int))), t3.2.1, t3.2.2.1, (Go.IntKind.wrap .i64 (t3.2.2.2.1 + (1 : Int))), t3.2.2.2.2) else none else none else k1 (t3.1, t3.2.2.2.2)
def Qb k0 k1 := zE (@jW R k0 k1) zW
def zy (x : List yb) : Option Bool :=
 Qb (fun x3 => some x3.1) (fun x4 => Option.bind (bif (decide ((List.length x4.2 : Int) ≤ (3 : Int))) then some (decide (x4.1 ≤ (8 : Int))) else some false) fun u5 => some u5) ((0 : Int), x, (List.length x : Int), (0 : Int), x)
def yjI : List QF := [yB9]
def y6n (t : ylN) : St := ⟨.dead :: .box 1 0 :: .dead :: vI t.1 :: dd 3 (Yj t.2.1 :: vI t.2.2.1 :: vI t.2.2.2.1 :: dd 24 []), [(1, .box [Yj t.2.2.2.2])]⟩
def yhh : Gk KY := fun κ => jW (fun t => κ none ⟨.dead :: .box 1 0 :: vB t.1 :: vI t.2.1 :: dd 30 [], [(1, .box [Yj t.2.2])]⟩) (fun t => κ (some 0) ⟨.dead :: .box 1 0 :: .dead :: vI t.1 :: dd 30 [], [(1, .box [Yj t.2])]⟩)
def yjJ : Lp := lpC 3 (unG ylO y6n) @yhh lpN
theorem yqU : LF yjI yjJ 251 3 Tryz.f251 0 y6n @yhh fun t => t := fun R κ again t => by kernel_rfl
theorem yqV : LK yjI yjJ 251 Tryz.f251 0 := lkN (u := (unG ylO y6n)) (yr fun t => by kernel_rfl) yqU
theorem yvU : EV yjI yjJ 251 Tryz.f251 yoq [(.sl 58 yn)] [.bool] zy := fun x => by kernel_rfl
def yzq : QF := ⟨251, zy, okN (n := 1) Tryz.func251 ⟨yqV, trivial⟩ yvU⟩
def YZ (x : ykI) : Option Int :=
 some (Go.IntKind.wrap .i64 ((Go.IntKind.wrap .i64 ((64 : Int) * x.1)) + x.2))
theorem yvV : EV [] lpN 223 Tryz.f223 yor ylb [(.int .i64)] YZ := fun x => by kernel_rfl
def yvW : QF := ⟨223, YZ, okN (n := 0) Tryz.func223 trivial yvV⟩
abbrev ka : Type := ylP
def Zq (k0 : ytg → Option R) (k1 : yi9 → Option R) (again : ka → Option R) (t5 : ka) : Option R :=
 bif (decide (t5.2.2.2.2.2.2.1 < t5.2.2.2.2.2.1)) then if (0 : Int) ≤ t5.2.2.2.2.2.2.1 then if t5.2.2.2.2.2.2.1 < (List.length t5.2.2.2.2.1 : Int) then Option.bind (YZ ((y8 t5.2.2.2.2.1 t5.2.2.2.2.2.2.1).1, (y8 t5.2.2.2.2.1 t5.2.2.2.2.2.2.1).2.1)) fun r1 => if (0 : Int) ≤ t5.1 then if t5.1 < (List.length t5.2.2.2.2.2.2.2.1 : Int) then Option.bind (bif (decide (r1 < (zC t5.2.2.2.2.2.2.2.1 t5.1))) then some true else Option.bind (bif (decide ((Go.IntKind.wrap .i64 (t5.1 + (1 : Int))) < (List.length t5.2.2.2.2.2.2.2.1 : Int))) then if (0 : Int) ≤ (Go.IntKind.wrap .i64 (t5.1 + (1 : Int))) then if (Go.IntKind.wrap .i64 (t5.1 + (1 : Int))) < (List.length t5.2.2.2.2.2.2.2.1 : Int) then some (decide (r1 ≥ (zC t5.2.2.2.2.2.2.2.1 (Go.IntKind.wrap .i64 (t5.1 + (1 : Int)))))) else none else none else some false) fun u3 => some u3) fun u2 => bif u2 then k0 (t5.1, false, t5.2.1, t5.2.2.1, t5.2.2.2.1, t5.2.2.2.2.2.2.2) else again (t5.1, t5.2.1, t5.2.2.1, t5.2.2.2.1, t5.2.2.2.2.1, t5.2.2.2.2.2.1, (Go.IntKind.wrap .i64 (t5.2.2.2.2.2.2.1 + (1 : Int))), t5.2.2.2.2.2.2.2.1, t5.2.2.2.2.2.2.2.2) else none else none else none else none else k1 (t5.1, t5.2.1, t5.2.2.1, t5.2.2.2.1, t5.2.2.2.2.2.2.2)
def kb k0 k1 := zE (@Zq R k0 k1) zW
abbrev kc : Type := yi9
def Zr (k0 : Bool → Option R) (k1 : Unit → Option R) (again : kc → Option R) (t2 : kc) : Option R :=
 bif (decide (t2.2.2.2.1 < t2.2.2.1)) then if (0 : Int) ≤ t2.2.2.2.1 then if t2.2.2.2.1 < (List.length t2.2.1 : Int) then kb (fun x4 => k0 x4.2.1) (fun x5 => again (x5.1, x5.2.1, x5.2.2.1, (Go.IntKind.wrap .i64 (x5.2.2.2.1 + (1 : Int))), x5.2.2.2.2.1, x5.2.2.2.2.2)) (t2.1, t2.2.1, t2.2.2.1, t2.2.2.2.1, (yp t2.2.1 t2.2.2.2.1), (List.length (yp t2.2.1 t2.2.2.2.1) : Int), (0 : Int), t2.2.2.2.2.1, t2.2.2.2.2.2) else none else none else k1 ()
def Vl k0 k1 := zE (@Zr R k0 k1) zW
def jX (x : ylc) : Option Bool :=
 if (0 : Int) ≤ x.2.2 then if x.2.2 < (List.length x.2.1 : Int) then Vl (fun x6 => some x6) (fun x7 => some true) (x.2.2, (yg x.2.1 x.2.2), (List.length (yg x.2.1 x.2.2) : Int), (0 : Int), x.1, x.2.1) else none else none
def yd2 : List QF := [yvW]
def y6o (t : ylP) : St := ⟨.dead :: vI t.1 :: .box 2 0 :: dd 12 (Yj t.2.1 :: vI t.2.2.1 :: vI t.2.2.2.1 :: dd 3 (VN t.2.2.2.2.1 :: vI t.2.2.2.2.2.1 :: vI t.2.2.2.2.2.2.1 :: dd 35 [])), [(2, .box [z7 t.2.2.2.2.2.2.2.1, yu t.2.2.2.2.2.2.2.2])]⟩
def yhi : Gk ka := fun κ => Zq (fun t => κ none ⟨.dead :: vI t.1 :: .box 2 0 :: .dead :: vB t.2.1 :: dd 10 (Yj t.2.2.1 :: vI t.2.2.2.1 :: vI t.2.2.2.2.1 :: dd 41 []), [(2, .box [z7 t.2.2.2.2.2.1, yu t.2.2.2.2.2.2])]⟩) (fun t => κ (some 2) ⟨.dead :: vI t.1 :: .box 2 0 :: dd 12 (Yj t.2.1 :: vI t.2.2.1 :: vI t.2.2.2.1 :: dd 41 []), [(2, .box [z7 t.2.2.2.2.1, yu t.2.2.2.2.2])]⟩)
def y6p (t : yi9) : St := ⟨.dead :: vI t.1 :: .box 2 0 :: dd 12 (Yj t.2.1 :: vI t.2.2.1 :: vI t.2.2.2.1 :: dd 41 []), [(2, .box [z7 t.2.2.2.2.1, yu t.2.2.2.2.2])]⟩
def yhj : Gk kc := fun κ => Zr (fun t => κ none ⟨dd 4 (vB t :: dd 54 []), []⟩) (fun t => κ (some 0) ⟨dd 59 [], []⟩)
def yd3 : Lp := lpC 2 (unG ylR y6p) @yhj (lpC 5 (unG ylQ y6o) @yhi lpN)
theorem yqW : LF yd2 yd3 252 5 Tryz.f252 1 y6o @yhi fun t => t := fun R κ again t => by kernel_rfl
theorem yqX : LK yd2 yd3 252 Tryz.f252 1 := lkN (u := (unG ylQ y6o)) (yr fun t => by kernel_rfl) yqW
theorem yqY : LF yd2 yd3 252 2 Tryz.f252 0 y6p @yhj fun t => t := fun R κ again t => by kernel_rfl
theorem yqZ : LK yd2 yd3 252 Tryz.f252 0 := lkN (u := (unG ylR y6p)) (yr fun t => by kernel_rfl) yqY
theorem yvX : EV yd2 yd3 252 Tryz.f252 yos yld [.bool] jX := fun x => by kernel_rfl
def yBa : QF := ⟨252, jX, okN (n := 2) Tryz.func252 ⟨yqZ, yqX, trivial⟩ yvX⟩
abbrev KZ : Type := ylS
def jY (k0 : ylU → Option R) (k1 : Int → Option R) (again : KZ → Option R) (t5 : KZ) : Option R :=
 bif (decide (t5.2.2.2.1 < t5.2.2.1)) then if (0 : Int) ≤ t5.2.2.2.1 then if t5.2.2.2.1 < (List.length t5.2.1 : Int) then Option.bind (bif (decide (t5.2.2.2.1 > (0 : Int))) then if (0 : Int) ≤ (Go.IntKind.wrap .i64 (t5.2.2.2.1 - (1 : Int))) then if (Go.IntKind.wrap .i64 (t5.2.2.2.1 - (1 : Int))) < (List.length t5.2.2.2.2.1 : Int) then if (0 : Int) ≤ t5.2.2.2.1 then if t5.2.2.2.1 < (List.length t5.2.2.2.2.1 : Int) then some (decide ((zC t5.2.2.2.2.1 (Go.IntKind.wrap .i64 (t5.2.2.2.1 - (1 : Int)))) ≥ (zC t5.2.2.2.2.1 t5.2.2.2.1))) else none else none else none else none else some false) fun u4 => Option.bind (bif u4 then some true else Option.bind (zy (yg t5.2.1 t5.2.2.2.1)) fun r6 => some (!r6)) fun u5 => Option.bind (bif u5 then some true else Option.bind (jX (t5.2.2.2.2.1, t5.2.2.2.2.2, t5.2.2.2.1)) fun r8 => some (!r8)) fun u7 => bif u7 then k0 (false, t5.1) else Option.bind (yH (yg t5.2.1 t5.2.2.2.1)) fun r9 => Option.bind (bif (decide (t5.2.2.2.1 > (0 : Int))) then some ((List.length r9 : Int) == (0 : Int)) else some false) fun u10 => bif u10 then k0 (false, t5.1) else again ((Go.IntKind.wrap .i64 (t5.1 + (List.length r9 : Int))), t5.2.1, t5.2.2.1, (Go.IntKind.wrap .i64 (t5.2.2.2.1 + (1 : Int))), t5.2.2.2.2.1, t5.2.2.2.2.2) else none else none else k1 t5.1
def Qc k0 k1 := zE (@jY R k0 k1) zW
def Yb (x : Qz8) : Option Bool :=
 Option.bind (yF ((List.length x.2 : Int), (1 : Int), (20 : Int))) fun r1 => Option.bind (bif (!r1) then some true else some ((List.length x.1 : Int) != (List.length x.2 : Int))) fun u2 => Option.bind (bif u2 then some true else if (0 : Int) ≤ (0 : Int) then if (0 : Int) < (List.length x.1 : Int) then some ((zC x.1 (0 : Int)) != (0 : Int)) else none else none) fun u3 => bif u3 then some false else Qc (fun x11 => some x11.1) (fun x12 => some (decide (x12 ≤ (60 : Int)))) ((0 : Int), x.2, (List.length x.2 : Int), (0 : Int), x.1, x.2)
def yjK : List QF := [q92, ykR, yzq, yBa]
def y6q (t : ylS) : St := ⟨.dead :: .box 1 0 :: .dead :: vI t.1 :: dd 25 (yu t.2.1 :: vI t.2.2.1 :: vI t.2.2.2.1 :: dd 46 []), [(1, .box [z7 t.2.2.2.2.1, yu t.2.2.2.2.2])]⟩
def yhk : Gk KZ := fun κ => jY (fun t => κ none ⟨dd 2 (vB t.1 :: vI t.2 :: dd 74 []), []⟩) (fun t => κ (some 0) ⟨dd 3 (vI t :: dd 74 []), []⟩)
def yjL : Lp := lpC 5 (unG ylT y6q) @yhk lpN
theorem yr0 : LF yjK yjL 128 5 Tryz.f128 0 y6q @yhk fun t => t := fun R κ again t => by kernel_rfl
theorem yr1 : LK yjK yjL 128 Tryz.f128 0 := lkN (u := (unG ylT y6q)) (yr fun t => by kernel_rfl) yr0
theorem yvY : EV yjK yjL 128 Tryz.f128 yot qz8 [.bool] Yb := fun x => by kernel_rfl
def yzr : QF := ⟨128, Yb, okN (n := 1) Tryz.func128 ⟨yr1, trivial⟩ yvY⟩
def kB (x : ysI) : Option ylU :=
 some ((x.1 == x.2.2), x.2.2)
theorem yvZ : EV [] lpN 319 Tryz.f319 yov ysJ yth kB := fun x => by kernel_rfl
def yBb : QF := ⟨319, kB, okN (n := 0) Tryz.func319 trivial yvZ⟩
abbrev zB : Type := ylV
def yT (k0 : ykI → Option R) (k1 : Int → Option R) (again : zB → Option R) (t2 : zB) : Option R :=
 bif (decide (t2.2.2.1 < t2.2.1)) then if (0 : Int) ≤ t2.2.2.1 then if t2.2.2.1 < (List.length t2.1 : Int) then Option.bind (kB ((yK t2.1 t2.2.2.1).1, (yK t2.1 t2.2.2.1).2, t2.2.2.2)) fun r1 => bif r1.1 then k0 (t2.2.2.1, r1.2) else again (t2.1, t2.2.1, (Go.IntKind.wrap .i64 (t2.2.2.1 + (1 : Int))), r1.2) else none else none else k1 t2.2.2.2
def Yn k0 k1 := zE (@yT R k0 k1) zW
def yX (x : yet) : Option ykI :=
 Yn (fun x2 => some x2) (fun x3 => some ((-1 : Int), x3)) (x.1, (List.length x.1 : Int), (0 : Int), x.2)
def y6r : List QF := [yBb]
def y0f (t : ylV) : St := ⟨zk t.1 :: .clo 319 901 :: dd 5 (vI t.2.1 :: vI t.2.2.1 :: dd 10 []), [(901, .box [vI t.2.2.2])]⟩
def y7W : Gk zB := fun κ => yT (fun t => κ none ⟨.dead :: .clo 319 901 :: dd 2 (vI t.1 :: dd 14 []), [(901, .box [vI t.2])]⟩) (fun t => κ (some 0) ⟨.dead :: .clo 319 901 :: dd 17 [], [(901, .box [vI t])]⟩)
def y6s : Lp := lpC 2 (unG ylW y0f) @y7W lpN
theorem yd4 : LF y6r y6s 100000 2 Tryz.f318 0 y0f @y7W fun t => t := fun R κ again t => by kernel_rfl
theorem yd5 : LK y6r y6s 100000 Tryz.f318 0 := lkN (u := (unG ylW y0f)) (yr fun t => by kernel_rfl) yd4
theorem yeZ : EV y6r y6s 100000 Tryz.f318 yar yeu ylb yX := fun x => by kernel_rfl
def yjM : QF := ⟨100000, yX, okN (n := 1) Tryz.func318 ⟨yd5, trivial⟩ yeZ⟩
def ZI (x : yet) : Option Int :=
 Option.bind (yX x) fun r1 => some r1.1
theorem yw0 : EV [yjM] lpN 245 Tryz.f245 yow yeu [(.int .i64)] ZI := fun x => by kernel_rfl
def yw1 : QF := ⟨245, ZI, okN (n := 0) Tryz.func245 trivial yw0⟩
abbrev va : Type := ylX
def jZ (k0 : ysc → Option R) (k1 : List yd → Option R) (again : va → Option R) (t2 : va) : Option R :=
 bif (decide (t2.2.2.2 < t2.2.2.1)) then if (0 : Int) ≤ t2.2.2.2 then if t2.2.2.2 < (List.length t2.2.1 : Int) then Option.bind (yF ((yK t2.2.1 t2.2.2.2).1, (1 : Int), (60 : Int))) fun r1 => Option.bind (bif (!r1) then some true else Option.bind (bif (decide (t2.2.2.2 > (0 : Int))) then if (0 : Int) ≤ (Go.IntKind.wrap .i64 (t2.2.2.2 - (1 : Int))) then if (Go.IntKind.wrap .i64 (t2.2.2.2 - (1 : Int))) < (List.length t2.1 : Int) then some (decide ((yK t2.1 (Go.IntKind.wrap .i64 (t2.2.2.2 - (1 : Int)))).1 ≥ (yK t2.2.1 t2.2.2.2).1)) else none else none else some false) fun u3 => some u3) fun u2 => Option.bind (bif u2 then some true else Option.bind (bif ((yK t2.2.1 t2.2.2.2).2 != (0 : Int)) then if (0 : Int) ≤ (0 : Int) then if (0 : Int) ≤ t2.2.2.2 then if t2.2.2.2 ≤ (List.length t2.1 : Int) then Option.bind (ZI ((List.drop (Int.toNat (0 : Int)) (List.take (Int.toNat t2.2.2.2) t2.1)), (yK t2.2.1 t2.2.2.2).2)) fun r6 => some (decide (r6 < (0 : Int))) else none else none else none else some false) fun u5 => some u5) fun u4 => bif u4 then k0 (t2.1, false) else again (t2.1, t2.2.1, t2.2.2.1, (Go.IntKind.wrap .i64 (t2.2.2.2 + (1 : Int)))) else none else none else k1 t2.1
def Qd k0 k1 := zE (@jZ R k0 k1) zW
def Wx (x : List yd) : Option Bool :=
 Qd (fun x7 => some x7.2) (fun x8 => some (decide ((List.length x8 : Int) ≤ (16 : Int)))) (x, x, (List.length x : Int), (0 : Int))
def yjN : List QF := [q92, yw1]
def y6t (t : ylX) : St := ⟨zk t.1 :: dd 4 (zk t.2.1 :: vI t.2.2.1 :: vI t.2.2.2 :: dd 41 []), []⟩
def yhl : Gk va := fun κ => jZ (fun t => κ none ⟨zk t.1 :: .dead :: vB t.2 :: dd 46 [], []⟩) (fun t => κ (some 0) ⟨zk t :: dd 48 [], []⟩)
def yjO : Lp := lpC 2 (unG ylY y6t) @yhl lpN
theorem yr2 : LF yjN yjO 129 2 Tryz.f129 0 y6t @yhl fun t => t := fun R κ again t => by kernel_rfl
theorem yr3 : LK yjN yjO 129 Tryz.f129 0 := lkN (u := (unG ylY y6t)) (yr fun t => by kernel_rfl) yr2
theorem yw2 : EV yjN yjO 129 Tryz.f129 yox [(.sl 146 yo)] [.bool] Wx := fun x => by kernel_rfl
def yBc : QF := ⟨129, Wx, okN (n := 1) Tryz.func129 ⟨yr3, trivial⟩ yw2⟩
def Jv (x : Int) : Option Bool :=
 Option.bind (yF (x, (0 : Int), (65535 : Int))) fun r1 => some r1
theorem yw3 : EV [q92] lpN 125 Tryz.f125 yoy [(.int .i64)] [.bool] Jv := fun x => by kernel_rfl
def yzs : QF := ⟨125, Jv, okN (n := 0) Tryz.func125 trivial yw3⟩
abbrev K7 : Type := ylZ
def ja (k0 : yxB → Option R) (k1 : List y9 → Option R) (again : K7 → Option R) (t2 : K7) : Option R :=
 bif (decide (t2.2.2.2 < t2.2.2.1)) then if (0 : Int) ≤ t2.2.2.2 then if t2.2.2.2 < (List.length t2.2.1 : Int) then Option.bind (yF ((yj t2.2.1 t2.2.2.2).1, (0 : Int), (999 : Int))) fun r1 => Option.bind (bif (!r1) then some true else Option.bind (Jv ((yj t2.2.1 t2.2.2.2).2.2)) fun r3 => some (!r3)) fun u2 => Option.bind (bif u2 then some true else Option.bind (bif ((yj t2.2.1 t2.2.2.2).2.2 != (0 : Int)) then some (!((yj t2.2.1 t2.2.2.2).2.1)) else some false) fun u5 => some u5) fun u4 => bif u4 then k0 (t2.1, false) else again (t2.1, t2.2.1, t2.2.2.1, (Go.IntKind.wrap .i64 (t2.2.2.2 + (1 : Int)))) else none else none else k1 t2.1
def qn k0 k1 := zE (@ja R k0 k1) zW
def Ze (x : List y9) : Option Bool :=
 qn (fun x6 => some x6.2) (fun x7 => some ((List.length x7 : Int) == (24 : Int))) (x, x, (List.length x : Int), (0 : Int))
def yjP : List QF := [q92, yzs]
def y6u (t : ylZ) : St := ⟨yN t.1 :: dd 4 (yN t.2.1 :: vI t.2.2.1 :: vI t.2.2.2 :: dd 27 []), []⟩
def yhm : Gk K7 := fun κ => ja (fun t => κ none ⟨yN t.1 :: .dead :: vB t.2 :: dd 32 [], []⟩) (fun t => κ (some 0) ⟨yN t :: dd 34 [], []⟩)
def yjQ : Lp := lpC 2 (unG ym0 y6u) @yhm lpN
theorem yr4 : LF yjP yjQ 130 2 Tryz.f130 0 y6u @yhm fun t => t := fun R κ again t => by kernel_rfl
theorem yr5 : LK yjP yjQ 130 Tryz.f130 0 := lkN (u := (unG ym0 y6u)) (yr fun t => by kernel_rfl) yr4
theorem yw4 : EV yjP yjQ 130 Tryz.f130 yoz [(.sl 113 ye)] [.bool] Ze := fun x => by kernel_rfl
def yw5 : QF := ⟨130, Ze, okN (n := 1) Tryz.func130 ⟨yr5, trivial⟩ yw4⟩
abbrev vb : Type := ysd
def vc (k0 : yxC → Option R) (k1 : ByteArray → Option R) (again : vb → Option R) (t2 : vb) : Option R :=
 bif (decide (t2.2 < ((ByteArray.size t2.1 : Nat) : Int))) then if (0 : Int) ≤ t2.2 then if h1 : Int.toNat t2.2 < ByteArray.size t2.1 then Option.bind (yF ((Go.IntKind.wrap .i64 ((UInt8.toNat (ByteArray.get t2.1 (Int.toNat t2.2) h1) : Nat) : Int)), (97 : Int), (122 : Int))) fun r2 => Option.bind (bif (!r2) then if (0 : Int) ≤ t2.2 then if h4 : Int.toNat t2.2 < ByteArray.size t2.1 then Option.bind (yF ((Go.IntKind.wrap .i64 ((UInt8.toNat (ByteArray.get t2.1 (Int.toNat t2.2) h4) : Nat) : Int)), (48 : Int), (57 : Int))) fun r5 => some (!r5) else none else none else some false) fun u3 => bif u3 then k0 (t2.1, false) else again (t2.1, (Go.IntKind.wrap .i64 (t2.2 + (1 : Int)))) else none else none else k1 t2.1
def Qe k0 k1 := zE (@vc R k0 k1) zW
def Wy (x : ByteArray) : Option Bool :=
 Qe (fun x6 => some x6.2) (fun x7 => Option.bind (yF (((ByteArray.size x7 : Nat) : Int), (1 : Int), (6 : Int))) fun r8 => some r8) (x, (0 : Int))
def yjR : List QF := [q92]
def y6v (t : ysd) : St := ⟨vS t.1 :: dd 2 (vI t.2 :: dd 23 []), []⟩
def yhn : Gk vb := fun κ => vc (fun t => κ none ⟨vS t.1 :: .dead :: vB t.2 :: dd 24 [], []⟩) (fun t => κ (some 0) ⟨vS t :: dd 26 [], []⟩)
def yjS : Lp := lpC 2 (unG yse y6v) @yhn lpN
theorem yr6 : LF yjR yjS 117 2 Tryz.f117 0 y6v @yhn fun t => t := fun R κ again t => by kernel_rfl
theorem yr7 : LK yjR yjS 117 Tryz.f117 0 := lkN (u := (unG yse y6v)) (yr fun t => by kernel_rfl) yr6
theorem yw6 : EV yjR yjS 117 Tryz.f117 yoA [.str] [.bool] Wy := fun x => by kernel_rfl
def yBd : QF := ⟨117, Wy, okN (n := 1) Tryz.func117 ⟨yr7, trivial⟩ yw6⟩
abbrev vd : Type := ym1
def J0 (k0 : List yf → Option R) (again : vd → Option R) (t5 : vd) : Option R :=
 bif (decide (t5.2.2.2.1 < t5.2.2.1)) then if (0 : Int) ≤ t5.2.2.2.1 then if t5.2.2.2.1 < (List.length t5.2.1 : Int) then bif ((yK t5.2.1 t5.2.2.2.1).2 == t5.1) then if (List.length t5.2.2.2.2 + List.length ([(yK t5.2.1 t5.2.2.2.1).1] : List yf)) * 8 < 140737488355328 then again (t5.1, t5.2.1, t5.2.2.1, (Go.IntKind.wrap .i64 (t5.2.2.2.1 + (1 : Int))), (t5.2.2.2.2 ++ ([(yK t5.2.1 t5.2.2.2.1).1] : List yf))) else none else again (t5.1, t5.2.1, t5.2.2.1, (Go.IntKind.wrap .i64 (t5.2.2.2.1 + (1 : Int))), t5.2.2.2.2) else none else none else k0 t5.2.2.2.2
def Qg k0 := zE (@J0 R k0) zW
def Wz (x : yet) : Option (List yf) :=
 bif (x.2 == (0 : Int)) then some ([] : List yf) else Qg (fun x1 => some x1) (x.2, x.1, (List.length x.1 : Int), (0 : Int), ([] : List yf))
def yjT : List QF := []
def y6w (t : ym1) : St := ⟨.dead :: vI t.1 :: dd 3 (.own 10000000 :: dd 6 (zk t.2.1 :: vI t.2.2.1 :: vI t.2.2.2.1 :: dd 14 [])), [(10000000, .root true 3 yi t.2.2.2.2)]⟩
def yho : Gk vd := fun κ => J0 (fun t => κ (some 0) ⟨dd 5 (.own 10000000 :: dd 23 []), [(10000000, .root true 3 yi t)]⟩)
def yjU : Lp := lpC 5 (unG ym2 y6w) @yho lpN
theorem yr8 : LF yjT yjU 135 5 Tryz.f135 0 y6w @yho fun t => t := fun R κ again t => by kernel_rfl
theorem yr9 : LK yjT yjU 135 Tryz.f135 0 := lkN (u := (unG ym2 y6w)) (yr fun t => by kernel_rfl) yr8
theorem yw7 : EV yjT yjU 135 Tryz.f135 yoB yeu [(.sl 3 yi)] Wz := fun x => by kernel_rfl
def yBe : QF := ⟨135, Wz, okN (n := 1) Tryz.func135 ⟨yr9, trivial⟩ yw7⟩
def WA (x : yti) : Option ym3 :=
 some ((x.2.1 == x.2.2.2.2.2.1), x.2.2.2.2.1, x.2.2.2.2.2.1, x.2.2.2.2.2.2.1, x.2.2.2.2.2.2.2)
theorem yw8 : EV [] lpN 254 Tryz.f254 yoC ytj ym4 WA := fun x => by kernel_rfl
def yBf : QF := ⟨254, WA, okN (n := 0) Tryz.func254 trivial yw8⟩
abbrev zz : Type := ym5
def yP (k0 : ym7 → Option R) (k1 : ytl → Option R) (again : zz → Option R) (t2 : zz) : Option R :=
 bif (decide (t2.2.2.1 < t2.2.1)) then if (0 : Int) ≤ t2.2.2.1 then if t2.2.2.1 < (List.length t2.1 : Int) then Option.bind (WA ((yq t2.1 t2.2.2.1).1, (yq t2.1 t2.2.2.1).2.1, (yq t2.1 t2.2.2.1).2.2.1, (yq t2.1 t2.2.2.1).2.2.2, t2.2.2.2.1, t2.2.2.2.2.1, t2.2.2.2.2.2.1, t2.2.2.2.2.2.2)) fun r1 => bif r1.1 then k0 (t2.2.2.1, r1.2) else again (t2.1, t2.2.1, (Go.IntKind.wrap .i64 (t2.2.2.1 + (1 : Int))), r1.2.1, r1.2.2.1, r1.2.2.2.1, r1.2.2.2.2) else none else none else k1 t2.2.2.2
def Yg k0 k1 := zE (@yP R k0 k1) zW
def yV (x : ysT) : Option ym7 :=
 Yg (fun x2 => some x2) (fun x3 => some ((-1 : Int), x3.1, x3.2.1, x3.2.2.1, x3.2.2.2)) (x.1, (List.length x.1 : Int), (0 : Int), x.2.1, x.2.2.1, x.2.2.2.1, x.2.2.2.2)
def y6x : List QF := [yBf]
def y0g (t : ym5) : St := ⟨Y3 t.1 :: .clo 254 901 :: dd 5 (vI t.2.1 :: vI t.2.2.1 :: dd 10 []), [(901, .box [vS t.2.2.2.1, vI t.2.2.2.2.1, vI t.2.2.2.2.2.1, vB t.2.2.2.2.2.2])]⟩
def y7X : Gk zz := fun κ => yP (fun t => κ none ⟨.dead :: .clo 254 901 :: dd 2 (vI t.1 :: dd 14 []), [(901, .box [vS t.2.1, vI t.2.2.1, vI t.2.2.2.1, vB t.2.2.2.2])]⟩) (fun t => κ (some 0) ⟨.dead :: .clo 254 901 :: dd 17 [], [(901, .box [vS t.1, vI t.2.1, vI t.2.2.1, vB t.2.2.2])]⟩)
def y6y : Lp := lpC 2 (unG ym6 y0g) @y7X lpN
theorem yd6 : LF y6x y6y 100002 2 Tryz.f242 0 y0g @y7X fun t => t := fun R κ again t => by kernel_rfl
theorem yd7 : LK y6x y6y 100002 Tryz.f242 0 := lkN (u := (unG ym6 y0g)) (yr fun t => by kernel_rfl) yd6
theorem yf0 : EV y6x y6y 100002 Tryz.f242 yas ysU ytk yV := fun x => by kernel_rfl
def yjV : QF := ⟨100002, yV, okN (n := 1) Tryz.func242 ⟨yd7, trivial⟩ yf0⟩
def yD (x : ysT) : Option ym3 :=
 Option.bind (yV x) fun r1 => some ((decide (r1.1 ≥ (0 : Int))), r1.2.1, r1.2.2.1, r1.2.2.2.1, r1.2.2.2.2)
theorem yf1 : EV [yjV] lpN 100001 Tryz.f253 yat ysU ym4 yD := fun x => by kernel_rfl
def yjW : QF := ⟨100001, yD, okN (n := 0) Tryz.func253 trivial yf1⟩
abbrev ve : Type := ym8
def J1 (k0 : yi1 → Option R) (k1 : Qz9 → Option R) (again : ve → Option R) (t2 : ve) : Option R :=
 bif (decide (t2.2.2.1 < t2.2.1)) then if (0 : Int) ≤ t2.2.2.1 then if t2.2.2.1 < (List.length t2.1 : Int) then Option.bind (Wy ((yq t2.1 t2.2.2.1).1)) fun r1 => Option.bind (bif (!r1) then some true else Option.bind (bif (decide (t2.2.2.1 > (0 : Int))) then if (0 : Int) ≤ (Go.IntKind.wrap .i64 (t2.2.2.1 - (1 : Int))) then if (Go.IntKind.wrap .i64 (t2.2.2.1 - (1 : Int))) < (List.length t2.2.2.2.2.2.2.2.1 : Int) then some (!Go.Op.bytesLess (ByteArray.toList ((yq t2.2.2.2.2.2.2.2.1 (Go.IntKind.wrap .i64 (t2.2.2.1 - (1 : Int)))).1)) (ByteArray.toList ((yq t2.1 t2.2.2.1).1))) else none else none else some false) fun u3 => some u3) fun u2 => Option.bind (bif u2 then some true else Option.bind (yF ((yq t2.1 t2.2.2.1).2.2.1, (1 : Int), (12 : Int))) fun r5 => some (!r5)) fun u4 => bif u4 then k0 (false, t2.2.2.2) else Option.bind (ZI (t2.2.2.2.2.2.1, (yq t2.1 t2.2.2.1).2.1)) fun r6 => Option.bind (bif (decide (r6 < (0 : Int))) then some true else Option.bind (Wz (t2.2.2.2.2.2.1, (yq t2.1 t2.2.2.1).2.1)) fun r8 => some (decide ((List.length r8 : Int) > (0 : Int)))) fun u7 => bif u7 then k0 (false, t2.2.2.2) else if (0 : Int) ≤ (0 : Int) then if (0 : Int) ≤ t2.2.2.1 then if t2.2.2.1 ≤ (List.length t2.2.2.2.2.2.2.2.1 : Int) then Option.bind (yD ((List.drop (Int.toNat (0 : Int)) (List.take (Int.toNat t2.2.2.1) t2.2.2.2.2.2.2.2.1)), (yq t2.1 t2.2.2.1).1, (yq t2.1 t2.2.2.1).2.1, (yq t2.1 t2.2.2.1).2.2.1, (yq t2.1 t2.2.2.1).2.2.2)) fun r9 => bif r9.1 then k0 (false, t2.2.2.2) else again (t2.1, t2.2.1, (Go.IntKind.wrap .i64 (t2.2.2.1 + (1 : Int))), t2.2.2.2.1, t2.2.2.2.2.1, t2.2.2.2.2.2.1, t2.2.2.2.2.2.2.1, t2.2.2.2.2.2.2.2.1, t2.2.2.2.2.2.2.2.2) else none else none else none else none else none else k1 t2.2.2.2
def Qh k0 k1 := zE (@J1 R k0 k1) zW
def WB (x : Qz9) : Option Bool :=
 Qh (fun x10 => some x10.1) (fun x11 => some (decide ((List.length x11.2.2.2.2.1 : Int) ≤ (6 : Int)))) (x.2.2.2.2.1, (List.length x.2.2.2.2.1 : Int), (0 : Int), x.1, x.2.1, x.2.2.1, x.2.2.2.1, x.2.2.2.2.1, x.2.2.2.2.2)
def yjX : List QF := [q92, yBd, yBe, yw1, yjW]
def y6z (t : ym8) : St := ⟨.dead :: .box 1 0 :: dd 4 (Y3 t.1 :: vI t.2.1 :: vI t.2.2.1 :: dd 56 []), [(1, .box [z7 t.2.2.2.1, yu t.2.2.2.2.1, zk t.2.2.2.2.2.1, yN t.2.2.2.2.2.2.1, Y3 t.2.2.2.2.2.2.2.1, vI t.2.2.2.2.2.2.2.2])]⟩
def yhp : Gk ve := fun κ => J1 (fun t => κ none ⟨.dead :: .box 1 0 :: vB t.1 :: dd 62 [], [(1, .box [z7 t.2.1, yu t.2.2.1, zk t.2.2.2.1, yN t.2.2.2.2.1, Y3 t.2.2.2.2.2.1, vI t.2.2.2.2.2.2])]⟩) (fun t => κ (some 0) ⟨.dead :: .box 1 0 :: dd 63 [], [(1, .box [z7 t.1, yu t.2.1, zk t.2.2.1, yN t.2.2.2.1, Y3 t.2.2.2.2.1, vI t.2.2.2.2.2])]⟩)
def yjY : Lp := lpC 2 (unG ym9 y6z) @yhp lpN
theorem yra : LF yjX yjY 131 2 Tryz.f131 0 y6z @yhp fun t => t := fun R κ again t => by kernel_rfl
theorem yrb : LK yjX yjY 131 Tryz.f131 0 := lkN (u := (unG ym9 y6z)) (yr fun t => by kernel_rfl) yra
theorem yw9 : EV yjX yjY 131 Tryz.f131 yoD qz9 [.bool] WB := fun x => by kernel_rfl
def yBg : QF := ⟨131, WB, okN (n := 1) Tryz.func131 ⟨yrb, trivial⟩ yw9⟩
abbrev WC : Type := yma
def Z0 (k0 : Int → Option R) (again : WC → Option R) (t3 : WC) : Option R :=
 bif (decide (t3.2.2.2 < t3.2.2.1)) then if (0 : Int) ≤ t3.2.2.2 then if t3.2.2.2 < (List.length t3.2.1 : Int) then bif (yj t3.2.1 t3.2.2.2).2.1 then again ((Go.IntKind.wrap .i64 (t3.1 + (1 : Int))), t3.2.1, t3.2.2.1, (Go.IntKind.wrap .i64 (t3.2.2.2 + (1 : Int)))) else again (t3.1, t3.2.1, t3.2.2.1, (Go.IntKind.wrap .i64 (t3.2.2.2 + (1 : Int)))) else none else none else k0 t3.1
def vM k0 := zE (@Z0 R k0) zW
def jb (x : List y9) : Option Int :=
 vM (fun x1 => some x1) ((0 : Int), x, (List.length x : Int), (0 : Int))
def ywa : List QF := []
def y9p (t : yma) : St := ⟨dd 3 (vI t.1 :: dd 2 (yN t.2.1 :: vI t.2.2.1 :: vI t.2.2.2 :: dd 9 [])), []⟩
def yrc : Gk WC := fun κ => Z0 (fun t => κ (some 0) ⟨dd 3 (vI t :: dd 14 []), []⟩)
def ywb : Lp := lpC 3 (unG ymb y9p) @yrc lpN
theorem ywc : LF ywa ywb 28 3 Tryz.f28 0 y9p @yrc fun t => t := fun R κ again t => by kernel_rfl
theorem ywd : LK ywa ywb 28 Tryz.f28 0 := lkN (u := (unG ymb y9p)) (yr fun t => by kernel_rfl) ywc
theorem yBh : EV ywa ywb 28 Tryz.f28 yyI [(.sl 113 ye)] [(.int .i64)] jb := fun x => by kernel_rfl
def q28 : QF := ⟨28, jb, okN (n := 1) Tryz.func28 ⟨ywd, trivial⟩ yBh⟩
abbrev ke : Type := ymc
def Zs (k0 : List ya → Option R) (again : ke → Option R) (t3 : ke) : Option R :=
 bif (decide (t3.2.2.1 < t3.2.1)) then if (0 : Int) ≤ t3.2.2.1 then if t3.2.2.1 < (List.length t3.1 : Int) then Option.bind (yH (yg t3.1 t3.2.2.1)) fun r1 => if (List.length t3.2.2.2 + List.length r1) * 40 < 140737488355328 then again (t3.1, t3.2.1, (Go.IntKind.wrap .i64 (t3.2.2.1 + (1 : Int))), (t3.2.2.2 ++ r1)) else none else none else none else k0 t3.2.2.2
def Vm k0 := zE (@Zs R k0) zW
def Yd (x : Qz8) : Option (List ya) :=
 Vm (fun x2 => some x2) (x.2, (List.length x.2 : Int), (0 : Int), ([] : List ya))
def ywe : List QF := [ykR]
def y9q (t : ymc) : St := ⟨dd 3 (.own 10000000 :: dd 4 (yu t.1 :: vI t.2.1 :: vI t.2.2.1 :: dd 9 [])), [(10000000, .root true 64 yk t.2.2.2)]⟩
def yrd : Gk ke := fun κ => Zs (fun t => κ (some 0) ⟨dd 3 (.own 10000000 :: dd 16 []), [(10000000, .root true 64 yk t)]⟩)
def ywf : Lp := lpC 3 (unG ymd y9q) @yrd lpN
theorem ywg : LF ywe ywf 29 3 Tryz.f29 0 y9q @yrd fun t => t := fun R κ again t => by kernel_rfl
theorem ywh : LK ywe ywf 29 Tryz.f29 0 := lkN (u := (unG ymd y9q)) (yr fun t => by kernel_rfl) ywg
theorem yBi : EV ywe ywf 29 Tryz.f29 yyJ qz8 [(.sl 64 yk)] Yd := fun x => by kernel_rfl
def q29 : QF := ⟨29, Yd, okN (n := 1) Tryz.func29 ⟨ywh, trivial⟩ yBi⟩
def WD (x : ykJ) : Option yxH :=
 Option.bind (yF (x.2.1, (0 : Int), (Go.IntKind.wrap .i64 ((List.length x.1 : Int) - (1 : Int))))) fun r1 => Option.bind (bif (!r1) then some true else if (0 : Int) ≤ x.2.1 then if x.2.1 < (List.length x.1 : Int) then some (!((yj x.1 x.2.1).2.1)) else none else none) fun u2 => Option.bind (bif u2 then some true else if (0 : Int) ≤ x.2.1 then if x.2.1 < (List.length x.1 : Int) then some ((yj x.1 x.2.1).1 != x.2.2) else none else none) fun u3 => bif u3 then some ((0 : Int), false) else if (0 : Int) ≤ x.2.1 then if x.2.1 < (List.length x.1 : Int) then some ((yj x.1 x.2.1).2.2, true) else none else none
theorem ywi : EV [q92] lpN 247 Tryz.f247 yoE ykK yxI WD := fun x => by kernel_rfl
def yBj : QF := ⟨247, WD, okN (n := 0) Tryz.func247 trivial ywi⟩
end
end Go.Proofs.YthgdjjdigalckaaGreat.XT
