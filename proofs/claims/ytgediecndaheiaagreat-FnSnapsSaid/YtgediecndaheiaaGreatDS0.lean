/- What functions compute, and that they do; part 0 of S; by a program (dec.py). No condition. -/
import Derived.Test.YtgediecndaheiaaGreatXS
import Derived.Test.YtgediecndaheiaaGreatHS0
set_option linter.all false
namespace Go.Proofs.YtgediecndaheiaaGreat.XS
open Go.Proofs.YtgediecndaheiaaGreat.R
set_option maxRecDepth 100000
noncomputable section
variable {R : Type}
def y0p (x : List y4U) : Option Bool :=
 some (decide ((List.length x : Int) > (1048576 : Int)))
theorem ev4 : EV [] lpN 4 Tryz.f4 sg4 [(.sl 5 kw)] [.bool] y0p := fun x => by kernel_rfl
def q4 : QF := ⟨4, y0p, okN (n := 0) Tryz.func4 trivial ev4⟩
abbrev VA : Type := Qz0
def Kg (k0 : Qz1 → Option R) (again : VA → Option R) (t3 : VA) : Option R :=
 Option.bind (bif (decide (t3.2.2 < (List.length t3.1 : Int))) then some (decide (t3.2.2 < (4000 : Int))) else some false) fun u1 => bif u1 then if (0 : Int) ≤ t3.2.2 then if t3.2.2 < (List.length t3.1 : Int) then again (t3.1, (Go.bits .and .i64 (Go.IntKind.wrap .i64 ((Go.IntKind.wrap .i64 ((Go.IntKind.wrap .i64 (t3.2.1 * (137 : Int))) + (Go.IntKind.wrap .i64 (ygk t3.1 t3.2.2)))) + (11 : Int))) (1073741823 : Int)), (Go.IntKind.wrap .i64 (t3.2.2 + (1 : Int)))) else none else none else k0 (t3.1, t3.2.1)
def y51 k0 := zV (@Kg R k0) Yg
def Vo (x : List y4U) : Option Qz0 :=
 y51 (fun x2 => some (x2.1, (0 : Int), x2.2)) (x, (Go.IntKind.wrap .i64 ((941941 : Int) + (List.length x : Int))), (0 : Int))
def ytx : List QF := []
def yab (t : Qz0) : St := ⟨ylJ t.1 :: dd 2 (vI t.2.1 :: vI t.2.2 :: dd 27 []), []⟩
def yp7 : Gk VA := fun κ => Kg (fun t => κ (some 0) ⟨ylJ t.1 :: dd 2 (vI t.2 :: dd 28 []), []⟩)
def yty : Lp := lpC 3 (unG qz0 yab) @yp7 lpN
theorem ytz : LF ytx yty 17 3 Tryz.f17 0 yab @yp7 fun t => t := fun R κ again t => by kernel_rfl
theorem ytA : LK ytx yty 17 Tryz.f17 0 := lkN (u := (unG qz0 yab)) (yu fun t => by kernel_rfl) ytz
theorem yAG : EV ytx yty 17 Tryz.f17 yyA [(.sl 5 kw)] qz0 Vo := fun x => by kernel_rfl
def q17 : QF := ⟨17, Vo, okN (n := 1) Tryz.func17 ⟨ytA, trivial⟩ yAG⟩
def Zi (x : Qz0) : Option Qz2 :=
 bif (decide (x.2.1 < (List.length x.1 : Int))) then if (0 : Int) ≤ x.2.1 then if x.2.1 < (List.length x.1 : Int) then some ((Go.bits .and .i64 (Go.IntKind.wrap .i64 ((Go.bits .and .i64 (Go.bits .xor .i64 (Int.fdiv (Go.IntKind.wrap .i64 ((Go.IntKind.wrap .i64 (x.2.2 * (6364136223846793005 : Int))) + (1442695040888963407 : Int))) (2 ^ (min (Int.toNat (33 : Int)) (Go.IntKind.bits .i64)))) (Int.fdiv (Go.IntKind.wrap .i64 ((Go.IntKind.wrap .i64 (x.2.2 * (6364136223846793005 : Int))) + (1442695040888963407 : Int))) (2 ^ (min (Int.toNat (47 : Int)) (Go.IntKind.bits .i64))))) (255 : Int)) + (Go.IntKind.wrap .i64 (ygk x.1 x.2.1)))) (255 : Int)), x.1, (Go.IntKind.wrap .i64 (x.2.1 + (1 : Int))), (Go.IntKind.wrap .i64 ((Go.IntKind.wrap .i64 (x.2.2 * (6364136223846793005 : Int))) + (1442695040888963407 : Int)))) else none else none else some ((Go.bits .and .i64 (Go.bits .xor .i64 (Int.fdiv (Go.IntKind.wrap .i64 ((Go.IntKind.wrap .i64 (x.2.2 * (6364136223846793005 : Int))) + (1442695040888963407 : Int))) (2 ^ (min (Int.toNat (33 : Int)) (Go.IntKind.bits .i64)))) (Int.fdiv (Go.IntKind.wrap .i64 ((Go.IntKind.wrap .i64 (x.2.2 * (6364136223846793005 : Int))) + (1442695040888963407 : Int))) (2 ^ (min (Int.toNat (47 : Int)) (Go.IntKind.bits .i64))))) (255 : Int)), x.1, x.2.1, (Go.IntKind.wrap .i64 ((Go.IntKind.wrap .i64 (x.2.2 * (6364136223846793005 : Int))) + (1442695040888963407 : Int))))
theorem yAH : EV [] lpN 74 Tryz.f74 yyB qz0 qz2 Zi := fun x => by kernel_rfl
def q74 : QF := ⟨74, Zi, okN (n := 0) Tryz.func74 trivial yAH⟩
def yt (x : Qz3) : Option Qz2 :=
 bif (decide (x.2.2.2 ≤ (0 : Int))) then some ((0 : Int), x.1, x.2.1, x.2.2.1) else bif (decide (x.2.2.2 ≤ (256 : Int))) then Option.bind (Zi (x.1, x.2.1, x.2.2.1)) fun r1 => if x.2.2.2 = 0 then none else some ((Int.tmod r1.1 x.2.2.2), r1.2.1, r1.2.2.1, r1.2.2.2) else Option.bind (Zi (x.1, x.2.1, x.2.2.1)) fun r2 => Option.bind (Zi r2.2) fun r3 => Option.bind (Zi r3.2) fun r4 => if x.2.2.2 = 0 then none else some ((Int.tmod (Go.IntKind.wrap .i64 ((Go.IntKind.wrap .i64 ((Go.IntKind.wrap .i64 (r2.1 * (65536 : Int))) + (Go.IntKind.wrap .i64 (r3.1 * (256 : Int))))) + r4.1)) x.2.2.2), r4.2.1, r4.2.2.1, r4.2.2.2)
theorem yAI : EV [q74] lpN 45 Tryz.f45 yyC qz3 qz2 yt := fun x => by kernel_rfl
def q45 : QF := ⟨45, yt, okN (n := 0) Tryz.func45 trivial yAI⟩
def ze (x : Qz4) : Option Qz2 :=
 Option.bind (yt (x.1, x.2.1, x.2.2.1, (List.length x.2.2.2 : Int))) fun r1 => if (0 : Int) ≤ r1.1 then if r1.1 < (List.length x.2.2.2 : Int) then some ((zw x.2.2.2 r1.1), r1.2.1, r1.2.2.1, r1.2.2.2) else none else none
theorem yAJ : EV [q45] lpN 47 Tryz.f47 yyD qz4 qz2 ze := fun x => by kernel_rfl
def q47 : QF := ⟨47, ze, okN (n := 0) Tryz.func47 trivial yAJ⟩
def jl (x : Qz5) : Option Qz6 :=
 Option.bind (yt (x.1, x.2.1, x.2.2.1, (List.length x.2.2.2 : Int))) fun r1 => if (0 : Int) ≤ r1.1 then if r1.1 < (List.length x.2.2.2 : Int) then some ((yej x.2.2.2 r1.1), r1.2.1, r1.2.2.1, r1.2.2.2) else none else none
theorem yAK : EV [q45] lpN 48 Tryz.f48 yyE qz5 qz6 jl := fun x => by kernel_rfl
def q48 : QF := ⟨48, jl, okN (n := 0) Tryz.func48 trivial yAK⟩
def zW (x : Qz0) : Option Qz6 :=
 Option.bind (jl (x.1, x.2.1, x.2.2, ([{ data := #[97] }, { data := #[98] }, { data := #[99] }, { data := #[100] }, { data := #[101, 53] }] : List y0o))) fun r1 => some r1
theorem yAL : EV [q48] lpN 49 Tryz.f49 yyF qz0 qz6 zW := fun x => by kernel_rfl
def q49 : QF := ⟨49, zW, okN (n := 0) Tryz.func49 trivial yAL⟩
def Yt (x : Qz0) : Option Qz2 :=
 Option.bind (yt (x.1, x.2.1, x.2.2, (200 : Int))) fun r1 => Option.bind (ze (r1.2.1, r1.2.2.1, r1.2.2.2, ([(0 : Int), (1 : Int), (2 : Int), (7 : Int), (65535 : Int), (Go.IntKind.wrap .i64 ((1 : Int) + r1.1))] : List yd))) fun r2 => some r2
theorem yAM : EV [q45, q47] lpN 50 Tryz.f50 yyG qz0 qz2 Yt := fun x => by kernel_rfl
def q50 : QF := ⟨50, Yt, okN (n := 0) Tryz.func50 trivial yAM⟩
def Y2 (x : Qz0) : Option Qz7 :=
 Option.bind (ze (x.1, x.2.1, x.2.2, ([(1 : Int), (1 : Int), (1 : Int), (2 : Int), (2 : Int), (3 : Int), (4 : Int), (4 : Int), (4 : Int), (4 : Int), (4 : Int), (4 : Int), (5 : Int), (6 : Int), (7 : Int), (7 : Int), (8 : Int), (9 : Int)] : List yd))) fun r1 => bif (decide (r1.1 < (7 : Int))) then Option.bind (jl (r1.2.1, r1.2.2.1, r1.2.2.2, ([{ data := #[97] }, { data := #[97] }, { data := #[98] }, { data := #[99] }, { data := #[100] }] : List y0o))) fun r2 => bif (r1.1 == (1 : Int)) then bif (r1.1 == (1 : Int)) then Option.bind (ze (r2.2.1, r2.2.2.1, r2.2.2.2, ([(1 : Int), (3 : Int), (4 : Int), (12 : Int), (5 : Int)] : List yd))) fun r3 => some (r1.1, r2.1, (⟨#[]⟩ : ByteArray), r3.1, (0 : Int), r3.2.1, r3.2.2.1, r3.2.2.2) else bif (r1.1 == (2 : Int)) then Option.bind (zW r2.2) fun r4 => Option.bind (ze (r4.2.1, r4.2.2.1, r4.2.2.2, ([(0 : Int), (0 : Int), (0 : Int), (1 : Int)] : List yd))) fun r5 => some (r1.1, r2.1, r4.1, (0 : Int), r5.1, r5.2.1, r5.2.2.1, r5.2.2.2) else bif (r1.1 == (4 : Int)) then Option.bind (yt (r2.2.1, r2.2.2.1, r2.2.2.2, (5 : Int))) fun r6 => Option.bind (Yt r6.2) fun r7 => some (r1.1, r2.1, (⟨#[]⟩ : ByteArray), r6.1, r7.1, r7.2.1, r7.2.2.1, r7.2.2.2) else bif (r1.1 == (5 : Int)) then Option.bind (yt (r2.2.1, r2.2.2.1, r2.2.2.2, (5 : Int))) fun r8 => some (r1.1, r2.1, (⟨#[]⟩ : ByteArray), r8.1, (0 : Int), r8.2.1, r8.2.2.1, r8.2.2.2) else bif (r1.1 == (8 : Int)) then bif (r1.1 == (8 : Int)) then Option.bind (yt (r2.2.1, r2.2.2.1, r2.2.2.2, (6 : Int))) fun r9 => some (r1.1, r2.1, (⟨#[]⟩ : ByteArray), r9.1, (0 : Int), r9.2.1, r9.2.2.1, r9.2.2.2) else some (r1.1, r2.1, (⟨#[]⟩ : ByteArray), (0 : Int), (0 : Int), r2.2.1, r2.2.2.1, r2.2.2.2) else bif (r1.1 == (9 : Int)) then Option.bind (yt (r2.2.1, r2.2.2.1, r2.2.2.2, (6 : Int))) fun r10 => some (r1.1, r2.1, (⟨#[]⟩ : ByteArray), r10.1, (0 : Int), r10.2.1, r10.2.2.1, r10.2.2.2) else some (r1.1, r2.1, (⟨#[]⟩ : ByteArray), (0 : Int), (0 : Int), r2.2.1, r2.2.2.1, r2.2.2.2) else bif (r1.1 == (6 : Int)) then Option.bind (ze (r2.2.1, r2.2.2.1, r2.2.2.2, ([(1 : Int), (3 : Int), (4 : Int), (12 : Int), (5 : Int)] : List yd))) fun r11 => some (r1.1, r2.1, (⟨#[]⟩ : ByteArray), r11.1, (0 : Int), r11.2.1, r11.2.2.1, r11.2.2.2) else bif (r1.1 == (2 : Int)) then Option.bind (zW r2.2) fun r12 => Option.bind (ze (r12.2.1, r12.2.2.1, r12.2.2.2, ([(0 : Int), (0 : Int), (0 : Int), (1 : Int)] : List yd))) fun r13 => some (r1.1, r2.1, r12.1, (0 : Int), r13.1, r13.2.1, r13.2.2.1, r13.2.2.2) else bif (r1.1 == (4 : Int)) then Option.bind (yt (r2.2.1, r2.2.2.1, r2.2.2.2, (5 : Int))) fun r14 => Option.bind (Yt r14.2) fun r15 => some (r1.1, r2.1, (⟨#[]⟩ : ByteArray), r14.1, r15.1, r15.2.1, r15.2.2.1, r15.2.2.2) else bif (r1.1 == (5 : Int)) then Option.bind (yt (r2.2.1, r2.2.2.1, r2.2.2.2, (5 : Int))) fun r16 => some (r1.1, r2.1, (⟨#[]⟩ : ByteArray), r16.1, (0 : Int), r16.2.1, r16.2.2.1, r16.2.2.2) else bif (r1.1 == (8 : Int)) then bif (r1.1 == (8 : Int)) then Option.bind (yt (r2.2.1, r2.2.2.1, r2.2.2.2, (6 : Int))) fun r17 => some (r1.1, r2.1, (⟨#[]⟩ : ByteArray), r17.1, (0 : Int), r17.2.1, r17.2.2.1, r17.2.2.2) else some (r1.1, r2.1, (⟨#[]⟩ : ByteArray), (0 : Int), (0 : Int), r2.2.1, r2.2.2.1, r2.2.2.2) else bif (r1.1 == (9 : Int)) then Option.bind (yt (r2.2.1, r2.2.2.1, r2.2.2.2, (6 : Int))) fun r18 => some (r1.1, r2.1, (⟨#[]⟩ : ByteArray), r18.1, (0 : Int), r18.2.1, r18.2.2.1, r18.2.2.2) else some (r1.1, r2.1, (⟨#[]⟩ : ByteArray), (0 : Int), (0 : Int), r2.2.1, r2.2.2.1, r2.2.2.2) else bif (r1.1 == (1 : Int)) then bif (r1.1 == (1 : Int)) then Option.bind (ze (r1.2.1, r1.2.2.1, r1.2.2.2, ([(1 : Int), (3 : Int), (4 : Int), (12 : Int), (5 : Int)] : List yd))) fun r19 => some (r1.1, (⟨#[]⟩ : ByteArray), (⟨#[]⟩ : ByteArray), r19.1, (0 : Int), r19.2.1, r19.2.2.1, r19.2.2.2) else bif (r1.1 == (2 : Int)) then Option.bind (zW r1.2) fun r20 => Option.bind (ze (r20.2.1, r20.2.2.1, r20.2.2.2, ([(0 : Int), (0 : Int), (0 : Int), (1 : Int)] : List yd))) fun r21 => some (r1.1, (⟨#[]⟩ : ByteArray), r20.1, (0 : Int), r21.1, r21.2.1, r21.2.2.1, r21.2.2.2) else bif (r1.1 == (4 : Int)) then Option.bind (yt (r1.2.1, r1.2.2.1, r1.2.2.2, (5 : Int))) fun r22 => Option.bind (Yt r22.2) fun r23 => some (r1.1, (⟨#[]⟩ : ByteArray), (⟨#[]⟩ : ByteArray), r22.1, r23.1, r23.2.1, r23.2.2.1, r23.2.2.2) else bif (r1.1 == (5 : Int)) then Option.bind (yt (r1.2.1, r1.2.2.1, r1.2.2.2, (5 : Int))) fun r24 => some (r1.1, (⟨#[]⟩ : ByteArray), (⟨#[]⟩ : ByteArray), r24.1, (0 : Int), r24.2.1, r24.2.2.1, r24.2.2.2) else bif (r1.1 == (8 : Int)) then bif (r1.1 == (8 : Int)) then Option.bind (yt (r1.2.1, r1.2.2.1, r1.2.2.2, (6 : Int))) fun r25 => some (r1.1, (⟨#[]⟩ : ByteArray), (⟨#[]⟩ : ByteArray), r25.1, (0 : Int), r25.2.1, r25.2.2.1, r25.2.2.2) else some (r1.1, (⟨#[]⟩ : ByteArray), (⟨#[]⟩ : ByteArray), (0 : Int), (0 : Int), r1.2.1, r1.2.2.1, r1.2.2.2) else bif (r1.1 == (9 : Int)) then Option.bind (yt (r1.2.1, r1.2.2.1, r1.2.2.2, (6 : Int))) fun r26 => some (r1.1, (⟨#[]⟩ : ByteArray), (⟨#[]⟩ : ByteArray), r26.1, (0 : Int), r26.2.1, r26.2.2.1, r26.2.2.2) else some (r1.1, (⟨#[]⟩ : ByteArray), (⟨#[]⟩ : ByteArray), (0 : Int), (0 : Int), r1.2.1, r1.2.2.1, r1.2.2.2) else bif (r1.1 == (6 : Int)) then Option.bind (ze (r1.2.1, r1.2.2.1, r1.2.2.2, ([(1 : Int), (3 : Int), (4 : Int), (12 : Int), (5 : Int)] : List yd))) fun r27 => some (r1.1, (⟨#[]⟩ : ByteArray), (⟨#[]⟩ : ByteArray), r27.1, (0 : Int), r27.2.1, r27.2.2.1, r27.2.2.2) else bif (r1.1 == (2 : Int)) then Option.bind (zW r1.2) fun r28 => Option.bind (ze (r28.2.1, r28.2.2.1, r28.2.2.2, ([(0 : Int), (0 : Int), (0 : Int), (1 : Int)] : List yd))) fun r29 => some (r1.1, (⟨#[]⟩ : ByteArray), r28.1, (0 : Int), r29.1, r29.2.1, r29.2.2.1, r29.2.2.2) else bif (r1.1 == (4 : Int)) then Option.bind (yt (r1.2.1, r1.2.2.1, r1.2.2.2, (5 : Int))) fun r30 => Option.bind (Yt r30.2) fun r31 => some (r1.1, (⟨#[]⟩ : ByteArray), (⟨#[]⟩ : ByteArray), r30.1, r31.1, r31.2.1, r31.2.2.1, r31.2.2.2) else bif (r1.1 == (5 : Int)) then Option.bind (yt (r1.2.1, r1.2.2.1, r1.2.2.2, (5 : Int))) fun r32 => some (r1.1, (⟨#[]⟩ : ByteArray), (⟨#[]⟩ : ByteArray), r32.1, (0 : Int), r32.2.1, r32.2.2.1, r32.2.2.2) else bif (r1.1 == (8 : Int)) then bif (r1.1 == (8 : Int)) then Option.bind (yt (r1.2.1, r1.2.2.1, r1.2.2.2, (6 : Int))) fun r33 => some (r1.1, (⟨#[]⟩ : ByteArray), (⟨#[]⟩ : ByteArray), r33.1, (0 : Int), r33.2.1, r33.2.2.1, r33.2.2.2) else some (r1.1, (⟨#[]⟩ : ByteArray), (⟨#[]⟩ : ByteArray), (0 : Int), (0 : Int), r1.2.1, r1.2.2.1, r1.2.2.2) else bif (r1.1 == (9 : Int)) then Option.bind (yt (r1.2.1, r1.2.2.1, r1.2.2.2, (6 : Int))) fun r34 => some (r1.1, (⟨#[]⟩ : ByteArray), (⟨#[]⟩ : ByteArray), r34.1, (0 : Int), r34.2.1, r34.2.2.1, r34.2.2.2) else some (r1.1, (⟨#[]⟩ : ByteArray), (⟨#[]⟩ : ByteArray), (0 : Int), (0 : Int), r1.2.1, r1.2.2.1, r1.2.2.2)
theorem yAN : EV [q45, q47, q48, q49, q50] lpN 20 Tryz.f20 yyH qz0 qz7 Y2 := fun x => by kernel_rfl
def q20 : QF := ⟨20, Y2, okN (n := 0) Tryz.func20 trivial yAN⟩
def Kh (x : Unit) : Option Qz8 :=
 some (([(0 : Int)] : List yd), ([([] : List yb)] : List y0))
theorem yAO : EV [] lpN 72 Tryz.f72 yyI [] qz8 Kh := fun x => by kernel_rfl
def q72 : QF := ⟨72, Kh, okN (n := 0) Tryz.func72 trivial yAO⟩
def Wq (x : Unit) : Option (List y8) :=
 if (0 : Int) ≤ (24 : Int) then if (24 : Int) ≤ (24 : Int) then if (24 : Int) * ((24 : Nat) : Int) ≤ 140737488351232 then some (List.replicate (Int.toNat (24 : Int)) yS) else none else none else none
theorem yAP : EV [] lpN 73 Tryz.f73 yyJ [] [(.sl 79 yg)] Wq := fun x => by kernel_rfl
def q73 : QF := ⟨73, Wq, okN (n := 0) Tryz.func73 trivial yAP⟩
def Ki (x : Unit) : Option Qz9 :=
 Option.bind (Kh ()) fun r1 => Option.bind (Wq ()) fun r2 => some (r1.1, r1.2, ([] : List y9), r2, ([] : List yc), (1 : Int))
theorem yAQ : EV [q72, q73] lpN 44 Tryz.f44 yyK [] qz9 Ki := fun x => by kernel_rfl
def q44 : QF := ⟨44, Ki, okN (n := 0) Tryz.func44 trivial yAQ⟩
def yz (x : ysD) : Option Bool :=
 Option.bind (bif (decide (x.1 ≥ x.2.1)) then some (decide (x.1 ≤ x.2.2)) else some false) fun u1 => some u1
theorem ytB : EV [] lpN 107 Tryz.f107 ynG ysE [.bool] yz := fun x => by kernel_rfl
def y6t : QF := ⟨107, yz, okN (n := 0) Tryz.func107 trivial ytB⟩
abbrev vr : Type := yrV
def vt (k0 : yxr → Option R) (k1 : ByteArray → Option R) (again : vr → Option R) (t2 : vr) : Option R :=
 bif (decide (t2.2 < ((ByteArray.size t2.1 : Nat) : Int))) then if (0 : Int) ≤ t2.2 then if h1 : Int.toNat t2.2 < ByteArray.size t2.1 then Option.bind (yz ((Go.IntKind.wrap .i64 ((UInt8.toNat (ByteArray.get t2.1 (Int.toNat t2.2) h1) : Nat) : Int)), (97 : Int), (122 : Int))) fun r2 => Option.bind (bif (!r2) then if (0 : Int) ≤ t2.2 then if h4 : Int.toNat t2.2 < ByteArray.size t2.1 then Option.bind (yz ((Go.IntKind.wrap .i64 ((UInt8.toNat (ByteArray.get t2.1 (Int.toNat t2.2) h4) : Nat) : Int)), (48 : Int), (57 : Int))) fun r5 => some (!r5) else none else none else some false) fun u3 => bif u3 then k0 (t2.1, false) else again (t2.1, (Go.IntKind.wrap .i64 (t2.2 + (1 : Int)))) else none else none else k1 t2.1
def Qv k0 k1 := zV (@vt R k0 k1) Yg
def Yu (x : ByteArray) : Option Bool :=
 Qv (fun x6 => some x6.2) (fun x7 => Option.bind (yz (((ByteArray.size x7 : Nat) : Int), (1 : Int), (6 : Int))) fun r8 => some r8) (x, (0 : Int))
def yjC : List QF := [y6t]
def y6u (t : yrV) : St := ⟨vS t.1 :: dd 2 (vI t.2 :: dd 23 []), []⟩
def yi7 : Gk vr := fun κ => vt (fun t => κ none ⟨vS t.1 :: .dead :: vB t.2 :: dd 24 [], []⟩) (fun t => κ (some 0) ⟨vS t :: dd 26 [], []⟩)
def yjD : Lp := lpC 2 (unG yrW y6u) @yi7 lpN
theorem yp8 : LF yjC yjD 106 2 Tryz.f106 0 y6u @yi7 fun t => t := fun R κ again t => by kernel_rfl
theorem yp9 : LK yjC yjD 106 Tryz.f106 0 := lkN (u := (unG yrW y6u)) (yu fun t => by kernel_rfl) yp8
theorem ytC : EV yjC yjD 106 Tryz.f106 ynH [.str] [.bool] Yu := fun x => by kernel_rfl
def ysh : QF := ⟨106, Yu, okN (n := 1) Tryz.func106 ⟨yp9, trivial⟩ ytC⟩
def zl (x : Int) : Option Bool :=
 Option.bind (yz (x, (0 : Int), (65535 : Int))) fun r1 => some r1
theorem ytD : EV [y6t] lpN 108 Tryz.f108 ynI [(.int .i64)] [.bool] zl := fun x => by kernel_rfl
def ysi : QF := ⟨108, zl, okN (n := 0) Tryz.func108 trivial ytD⟩
def YZ (x : yxs) : Option Bool :=
 bif (x.1 == (2 : Int)) then Option.bind (bif (x.2.2.2.1 == (0 : Int)) then Option.bind (yz (x.2.2.2.2, (0 : Int), (1 : Int))) fun r2 => some r2 else some false) fun u1 => some u1 else bif (x.1 == (3 : Int)) then bif (x.1 == (3 : Int)) then Option.bind (bif (x.2.2.2.1 == (0 : Int)) then some (x.2.2.2.2 == (0 : Int)) else some false) fun u3 => some u3 else bif (x.1 == (4 : Int)) then some true else some (x.2.2.2.2 == (0 : Int)) else bif (x.1 == (7 : Int)) then Option.bind (bif (x.2.2.2.1 == (0 : Int)) then some (x.2.2.2.2 == (0 : Int)) else some false) fun u4 => some u4 else bif (x.1 == (4 : Int)) then some true else some (x.2.2.2.2 == (0 : Int))
theorem ytE : EV [y6t] lpN 109 Tryz.f109 ynJ yi3 [.bool] YZ := fun x => by kernel_rfl
def yAR : QF := ⟨109, YZ, okN (n := 0) Tryz.func109 trivial ytE⟩
def vu (x : yxs) : Option Bool :=
 Option.bind (Yu x.2.1) fun r1 => bif (decide (x.1 ≥ (7 : Int))) then bif (x.1 == (2 : Int)) then Option.bind (Yu x.2.2.1) fun r2 => Option.bind (yz (x.1, (1 : Int), (9 : Int))) fun r3 => Option.bind (bif r3 then some ((ByteArray.toList x.2.1) == (ByteArray.toList ({ data := #[] }))) else some false) fun u4 => Option.bind (bif u4 then some r2 else some false) fun u5 => Option.bind (bif u5 then Option.bind (zl x.2.2.2.1) fun r7 => some r7 else some false) fun u6 => Option.bind (bif u6 then Option.bind (zl x.2.2.2.2) fun r9 => some r9 else some false) fun u8 => Option.bind (bif u8 then Option.bind (YZ x) fun r11 => some r11 else some false) fun u10 => some u10 else Option.bind (yz (x.1, (1 : Int), (9 : Int))) fun r12 => Option.bind (bif r12 then some ((ByteArray.toList x.2.1) == (ByteArray.toList ({ data := #[] }))) else some false) fun u13 => Option.bind (bif u13 then some ((ByteArray.toList x.2.2.1) == (ByteArray.toList ({ data := #[] }))) else some false) fun u14 => Option.bind (bif u14 then Option.bind (zl x.2.2.2.1) fun r16 => some r16 else some false) fun u15 => Option.bind (bif u15 then Option.bind (zl x.2.2.2.2) fun r18 => some r18 else some false) fun u17 => Option.bind (bif u17 then Option.bind (YZ x) fun r20 => some r20 else some false) fun u19 => some u19 else bif (x.1 == (2 : Int)) then Option.bind (Yu x.2.2.1) fun r21 => Option.bind (yz (x.1, (1 : Int), (9 : Int))) fun r22 => Option.bind (bif r22 then some r1 else some false) fun u23 => Option.bind (bif u23 then some r21 else some false) fun u24 => Option.bind (bif u24 then Option.bind (zl x.2.2.2.1) fun r26 => some r26 else some false) fun u25 => Option.bind (bif u25 then Option.bind (zl x.2.2.2.2) fun r28 => some r28 else some false) fun u27 => Option.bind (bif u27 then Option.bind (YZ x) fun r30 => some r30 else some false) fun u29 => some u29 else Option.bind (yz (x.1, (1 : Int), (9 : Int))) fun r31 => Option.bind (bif r31 then some r1 else some false) fun u32 => Option.bind (bif u32 then some ((ByteArray.toList x.2.2.1) == (ByteArray.toList ({ data := #[] }))) else some false) fun u33 => Option.bind (bif u33 then Option.bind (zl x.2.2.2.1) fun r35 => some r35 else some false) fun u34 => Option.bind (bif u34 then Option.bind (zl x.2.2.2.2) fun r37 => some r37 else some false) fun u36 => Option.bind (bif u36 then Option.bind (YZ x) fun r39 => some r39 else some false) fun u38 => some u38
theorem yAS : EV [ysh, y6t, ysi, yAR] lpN 75 Tryz.f75 yyL yi3 [.bool] vu := fun x => by kernel_rfl
def q75 : QF := ⟨75, vu, okN (n := 0) Tryz.func75 trivial yAS⟩
def W8 (x : yfz) : Option Bool :=
 Option.bind (yz (x.1, (0 : Int), (15 : Int))) fun r1 => Option.bind (bif (!r1) then some true else Option.bind (yz (x.2.1, (1 : Int), (60 : Int))) fun r3 => some (!r3)) fun u2 => Option.bind (bif u2 then some true else Option.bind (yz (x.2.2.1, (0 : Int), (2 : Int))) fun r5 => some (!r5)) fun u4 => bif u4 then some false else bif (x.2.2.1 == (1 : Int)) then Option.bind (yz (x.2.2.2.1, (0 : Int), (23 : Int))) fun r6 => Option.bind (bif r6 then Option.bind (yz (x.2.2.2.2, (0 : Int), (999 : Int))) fun r8 => some r8 else some false) fun u7 => some u7 else Option.bind (bif (x.2.2.2.1 == (0 : Int)) then some (x.2.2.2.2 == (0 : Int)) else some false) fun u9 => some u9
theorem ytF : EV [y6t] lpN 161 Tryz.f161 ynK VR [.bool] W8 := fun x => by kernel_rfl
def yzW : QF := ⟨161, W8, okN (n := 0) Tryz.func161 trivial ytF⟩
def jZ (x : yrX) : Option Bool :=
 bif (x.1 != x.2.2.2.2.2.1) then some (decide (x.1 < x.2.2.2.2.2.1)) else some (decide (x.2.1 < x.2.2.2.2.2.2.1))
theorem ytG : EV [] lpN 179 Tryz.f179 ynL yrY [.bool] jZ := fun x => by kernel_rfl
def yzX : QF := ⟨179, jZ, okN (n := 0) Tryz.func179 trivial ytG⟩
abbrev KI : Type := yrZ
def jH (k0 : Bool → Option R) (k1 : Unit → Option R) (again : KI → Option R) (t2 : KI) : Option R :=
 bif (decide (t2.2 < (List.length t2.1 : Int))) then if (0 : Int) ≤ (Go.IntKind.wrap .i64 (t2.2 - (1 : Int))) then if (Go.IntKind.wrap .i64 (t2.2 - (1 : Int))) < (List.length t2.1 : Int) then if (0 : Int) ≤ t2.2 then if t2.2 < (List.length t2.1 : Int) then Option.bind (jZ ((y6 t2.1 (Go.IntKind.wrap .i64 (t2.2 - (1 : Int)))).1, (y6 t2.1 (Go.IntKind.wrap .i64 (t2.2 - (1 : Int)))).2.1, (y6 t2.1 (Go.IntKind.wrap .i64 (t2.2 - (1 : Int)))).2.2.1, (y6 t2.1 (Go.IntKind.wrap .i64 (t2.2 - (1 : Int)))).2.2.2.1, (y6 t2.1 (Go.IntKind.wrap .i64 (t2.2 - (1 : Int)))).2.2.2.2, (y6 t2.1 t2.2).1, (y6 t2.1 t2.2).2.1, (y6 t2.1 t2.2).2.2.1, (y6 t2.1 t2.2).2.2.2.1, (y6 t2.1 t2.2).2.2.2.2)) fun r1 => bif (!r1) then k0 false else again (t2.1, (Go.IntKind.wrap .i64 (t2.2 + (1 : Int)))) else none else none else none else none else k1 ()
def Q0 k0 k1 := zV (@jH R k0 k1) Yg
def wq (x : List y7) : Option Bool :=
 Q0 (fun x2 => some x2) (fun x3 => some true) (x, (1 : Int))
def yjE : List QF := [yzX]
def y6v (t : yrZ) : St := ⟨qI t.1 :: dd 2 (vI t.2 :: dd 17 []), []⟩
def yi8 : Gk KI := fun κ => jH (fun t => κ none ⟨dd 2 (vB t :: dd 18 []), []⟩) (fun t => κ (some 0) ⟨dd 21 [], []⟩)
def yjF : Lp := lpC 2 (unG ys0 y6v) @yi8 lpN
theorem ypa : LF yjE yjF 186 2 Tryz.f186 0 y6v @yi8 fun t => t := fun R κ again t => by kernel_rfl
theorem ypb : LK yjE yjF 186 Tryz.f186 0 := lkN (u := (unG ys0 y6v)) (yu fun t => by kernel_rfl) ypa
theorem ytH : EV yjE yjF 186 Tryz.f186 ynM [(.sl 81 yh)] [.bool] wq := fun x => by kernel_rfl
def yAT : QF := ⟨186, wq, okN (n := 1) Tryz.func186 ⟨ypb, trivial⟩ ytH⟩
abbrev VB : Type := yrZ
def ws (k0 : yxt → Option R) (k1 : List y7 → Option R) (again : VB → Option R) (t2 : VB) : Option R :=
 bif (decide (t2.2 < (List.length t2.1 : Int))) then if (0 : Int) ≤ t2.2 then if t2.2 < (List.length t2.1 : Int) then Option.bind (W8 ((y6 t2.1 t2.2).1, (y6 t2.1 t2.2).2.1, (y6 t2.1 t2.2).2.2.1, (y6 t2.1 t2.2).2.2.2.1, (y6 t2.1 t2.2).2.2.2.2)) fun r1 => bif (!r1) then k0 (t2.1, false) else again (t2.1, (Go.IntKind.wrap .i64 (t2.2 + (1 : Int)))) else none else none else k1 t2.1
def y0H k0 k1 := zV (@ws R k0 k1) Yg
def Kz (x : List y7) : Option Bool :=
 y0H (fun x2 => some x2.2) (fun x3 => Option.bind (wq x3) fun r4 => Option.bind (bif r4 then some (decide ((List.length x3 : Int) ≤ (60 : Int))) else some false) fun u5 => some u5) (x, (0 : Int))
def yjG : List QF := [yzW, yAT]
def y6w (t : yrZ) : St := ⟨qI t.1 :: dd 2 (vI t.2 :: dd 19 []), []⟩
def yi9 : Gk VB := fun κ => ws (fun t => κ none ⟨qI t.1 :: .dead :: vB t.2 :: dd 20 [], []⟩) (fun t => κ (some 0) ⟨qI t :: dd 22 [], []⟩)
def yjH : Lp := lpC 2 (unG ys0 y6w) @yi9 lpN
theorem ypc : LF yjG yjH 174 2 Tryz.f174 0 y6w @yi9 fun t => t := fun R κ again t => by kernel_rfl
theorem ypd : LK yjG yjH 174 Tryz.f174 0 := lkN (u := (unG ys0 y6w)) (yu fun t => by kernel_rfl) ypc
theorem ytI : EV yjG yjH 174 Tryz.f174 ynN [(.sl 81 yh)] [.bool] Kz := fun x => by kernel_rfl
def yAU : QF := ⟨174, Kz, okN (n := 1) Tryz.func174 ⟨ypd, trivial⟩ ytI⟩
abbrev KJ : Type := yxu
def jI (k0 : Int → Option R) (again : KJ → Option R) (t3 : KJ) : Option R :=
 bif (decide (t3.2.1 < (List.length t3.2.2 : Int))) then if (0 : Int) ≤ t3.2.1 then if t3.2.1 < (List.length t3.2.2 : Int) then again ((Go.IntKind.wrap .i64 (t3.1 + (List.length (ym t3.2.2 t3.2.1) : Int))), (Go.IntKind.wrap .i64 (t3.2.1 + (1 : Int))), t3.2.2) else none else none else k0 t3.1
def Q1 k0 := zV (@jI R k0) Yg
def wu (x : List yb) : Option Int :=
 Q1 (fun x1 => some x1) ((0 : Int), (0 : Int), x)
def yjI : List QF := []
def y6x (t : yxu) : St := ⟨.dead :: .box 1 0 :: .dead :: vI t.1 :: vI t.2.1 :: dd 16 [], [(1, .box [YA t.2.2])]⟩
def yia : Gk KJ := fun κ => jI (fun t => κ (some 0) ⟨dd 3 (vI t :: dd 17 []), []⟩)
def yjJ : Lp := lpC 3 (unG yxv y6x) @yia lpN
theorem ype : LF yjI yjJ 175 3 Tryz.f175 0 y6x @yia fun t => t := fun R κ again t => by kernel_rfl
theorem ypf : LK yjI yjJ 175 Tryz.f175 0 := lkN (u := (unG yxv y6x)) (yu fun t => by kernel_rfl) ype
theorem ytJ : EV yjI yjJ 175 Tryz.f175 ynO [(.sl 53 yr)] [(.int .i64)] wu := fun x => by kernel_rfl
def yAV : QF := ⟨175, wu, okN (n := 1) Tryz.func175 ⟨ypf, trivial⟩ ytJ⟩
abbrev vv : Type := yi4
def Jh (k0 : yAn → Option R) (k1 : List yb → Option R) (again : vv → Option R) (t2 : vv) : Option R :=
 bif (decide (t2.1 < (List.length t2.2 : Int))) then if (0 : Int) ≤ t2.1 then if t2.1 < (List.length t2.2 : Int) then Option.bind (Kz (ym t2.2 t2.1)) fun r1 => Option.bind (bif (!r1) then some true else if (0 : Int) ≤ t2.1 then if t2.1 < (List.length t2.2 : Int) then some ((List.length (ym t2.2 t2.1) : Int) == (0 : Int)) else none else none) fun u2 => bif u2 then k0 (false, t2.2) else again ((Go.IntKind.wrap .i64 (t2.1 + (1 : Int))), t2.2) else none else none else k1 t2.2
def Qw k0 k1 := zV (@Jh R k0 k1) Yg
def zm (x : List yb) : Option Bool :=
 Qw (fun x3 => some x3.1) (fun x4 => Option.bind (bif (decide ((List.length x4 : Int) ≤ (3 : Int))) then Option.bind (wu x4) fun r6 => some (decide (r6 ≤ (8 : Int))) else some false) fun u5 => some u5) ((0 : Int), x)
def yjK : List QF := [yAU, yAV]
def y6y (t : yi4) : St := ⟨.dead :: .box 1 0 :: .dead :: vI t.1 :: dd 32 [], [(1, .box [YA t.2])]⟩
def yib : Gk vv := fun κ => Jh (fun t => κ none ⟨.dead :: .box 1 0 :: vB t.1 :: dd 33 [], [(1, .box [YA t.2])]⟩) (fun t => κ (some 0) ⟨.dead :: .box 1 0 :: dd 34 [], [(1, .box [YA t])]⟩)
def yjL : Lp := lpC 2 (unG ys1 y6y) @yib lpN
theorem ypg : LF yjK yjL 156 2 Tryz.f156 0 y6y @yib fun t => t := fun R κ again t => by kernel_rfl
theorem yph : LK yjK yjL 156 Tryz.f156 0 := lkN (u := (unG ys1 y6y)) (yu fun t => by kernel_rfl) ypg
theorem ytK : EV yjK yjL 156 Tryz.f156 ynP [(.sl 53 yr)] [.bool] zm := fun x => by kernel_rfl
def yzY : QF := ⟨156, zm, okN (n := 1) Tryz.func156 ⟨yph, trivial⟩ ytK⟩
abbrev qJ : Type := ys2
def Wr (k0 : List y7 → Option R) (again : qJ → Option R) (t3 : qJ) : Option R :=
 bif (decide (t3.2.1 < (List.length t3.1 : Int))) then if (0 : Int) ≤ t3.2.1 then if t3.2.1 < (List.length t3.1 : Int) then bif ((y6 t3.1 t3.2.1).2.2.1 != (0 : Int)) then if (0 : Int) ≤ t3.2.1 then if t3.2.1 < (List.length t3.1 : Int) then if (List.length t3.2.2 + List.length ([((y6 t3.1 t3.2.1).1, (y6 t3.1 t3.2.1).2.1, (y6 t3.1 t3.2.1).2.2.1, (y6 t3.1 t3.2.1).2.2.2.1, (y6 t3.1 t3.2.1).2.2.2.2)] : List y7)) * 40 < 140737488355328 then again (t3.1, (Go.IntKind.wrap .i64 (t3.2.1 + (1 : Int))), (t3.2.2 ++ ([((y6 t3.1 t3.2.1).1, (y6 t3.1 t3.2.1).2.1, (y6 t3.1 t3.2.1).2.2.1, (y6 t3.1 t3.2.1).2.2.2.1, (y6 t3.1 t3.2.1).2.2.2.2)] : List y7))) else none else none else none else again (t3.1, (Go.IntKind.wrap .i64 (t3.2.1 + (1 : Int))), t3.2.2) else none else none else k0 t3.2.2
def y1E k0 := zV (@Wr R k0) Yg
def Y5 (x : List y7) : Option (List y7) :=
 y1E (fun x1 => some x1) (x, (0 : Int), ([] : List y7))
def yjM : List QF := []
def y6z (t : ys2) : St := ⟨qI t.1 :: dd 2 (.own 10000000 :: vI t.2.1 :: dd 21 []), [(10000000, .root true 81 yh t.2.2)]⟩
def yic : Gk qJ := fun κ => Wr (fun t => κ (some 0) ⟨dd 3 (.own 10000000 :: dd 22 []), [(10000000, .root true 81 yh t)]⟩)
def yjN : Lp := lpC 3 (unG ys3 y6z) @yic lpN
theorem ypi : LF yjM yjN 164 3 Tryz.f164 0 y6z @yic fun t => t := fun R κ again t => by kernel_rfl
theorem ypj : LK yjM yjN 164 Tryz.f164 0 := lkN (u := (unG ys3 y6z)) (yu fun t => by kernel_rfl) ypi
theorem ytL : EV yjM yjN 164 Tryz.f164 ynQ [(.sl 81 yh)] [(.sl 81 yh)] Y5 := fun x => by kernel_rfl
def ytM : QF := ⟨164, Y5, okN (n := 1) Tryz.func164 ⟨ypj, trivial⟩ ytL⟩
def ZR (x : yrX) : Option Bool :=
 Option.bind (bif (x.1 == x.2.2.2.2.2.1) then some (x.2.1 == x.2.2.2.2.2.2.1) else some false) fun u1 => some u1
theorem ytN : EV [] lpN 180 Tryz.f180 ynR yrY [.bool] ZR := fun x => by kernel_rfl
def yAW : QF := ⟨180, ZR, okN (n := 0) Tryz.func180 trivial ytN⟩
abbrev Ws : Type := yxw
def Z2 (k0 : yxy → Option R) (again : Ws → Option R) (t4 : Ws) : Option R :=
 bif (decide (t4.2.2.1 < (List.length t4.1 : Int))) then Option.bind (bif (!t4.2.1) then if (0 : Int) ≤ t4.2.2.1 then if t4.2.2.1 < (List.length t4.1 : Int) then Option.bind (jZ ((y6 t4.1 t4.2.2.1).1, (y6 t4.1 t4.2.2.1).2.1, (y6 t4.1 t4.2.2.1).2.2.1, (y6 t4.1 t4.2.2.1).2.2.2.1, (y6 t4.1 t4.2.2.1).2.2.2.2, t4.2.2.2.1, t4.2.2.2.2.1, t4.2.2.2.2.2.1, t4.2.2.2.2.2.2.1, t4.2.2.2.2.2.2.2.1)) fun r2 => some (!r2) else none else none else some false) fun u1 => bif u1 then if (List.length t4.2.2.2.2.2.2.2.2 + List.length ([(t4.2.2.2.1, t4.2.2.2.2.1, t4.2.2.2.2.2.1, t4.2.2.2.2.2.2.1, t4.2.2.2.2.2.2.2.1)] : List y7)) * 40 < 140737488355328 then if (0 : Int) ≤ t4.2.2.1 then if t4.2.2.1 < (List.length t4.1 : Int) then Option.bind (ZR ((y6 t4.1 t4.2.2.1).1, (y6 t4.1 t4.2.2.1).2.1, (y6 t4.1 t4.2.2.1).2.2.1, (y6 t4.1 t4.2.2.1).2.2.2.1, (y6 t4.1 t4.2.2.1).2.2.2.2, t4.2.2.2.1, t4.2.2.2.2.1, t4.2.2.2.2.2.1, t4.2.2.2.2.2.2.1, t4.2.2.2.2.2.2.2.1)) fun r3 => bif (!r3) then if (0 : Int) ≤ t4.2.2.1 then if t4.2.2.1 < (List.length t4.1 : Int) then if (List.length (t4.2.2.2.2.2.2.2.2 ++ ([(t4.2.2.2.1, t4.2.2.2.2.1, t4.2.2.2.2.2.1, t4.2.2.2.2.2.2.1, t4.2.2.2.2.2.2.2.1)] : List y7)) + List.length ([((y6 t4.1 t4.2.2.1).1, (y6 t4.1 t4.2.2.1).2.1, (y6 t4.1 t4.2.2.1).2.2.1, (y6 t4.1 t4.2.2.1).2.2.2.1, (y6 t4.1 t4.2.2.1).2.2.2.2)] : List y7)) * 40 < 140737488355328 then again (t4.1, true, (Go.IntKind.wrap .i64 (t4.2.2.1 + (1 : Int))), t4.2.2.2.1, t4.2.2.2.2.1, t4.2.2.2.2.2.1, t4.2.2.2.2.2.2.1, t4.2.2.2.2.2.2.2.1, ((t4.2.2.2.2.2.2.2.2 ++ ([(t4.2.2.2.1, t4.2.2.2.2.1, t4.2.2.2.2.2.1, t4.2.2.2.2.2.2.1, t4.2.2.2.2.2.2.2.1)] : List y7)) ++ ([((y6 t4.1 t4.2.2.1).1, (y6 t4.1 t4.2.2.1).2.1, (y6 t4.1 t4.2.2.1).2.2.1, (y6 t4.1 t4.2.2.1).2.2.2.1, (y6 t4.1 t4.2.2.1).2.2.2.2)] : List y7))) else none else none else none else again (t4.1, true, (Go.IntKind.wrap .i64 (t4.2.2.1 + (1 : Int))), t4.2.2.2.1, t4.2.2.2.2.1, t4.2.2.2.2.2.1, t4.2.2.2.2.2.2.1, t4.2.2.2.2.2.2.2.1, (t4.2.2.2.2.2.2.2.2 ++ ([(t4.2.2.2.1, t4.2.2.2.2.1, t4.2.2.2.2.2.1, t4.2.2.2.2.2.2.1, t4.2.2.2.2.2.2.2.1)] : List y7))) else none else none else none else if (0 : Int) ≤ t4.2.2.1 then if t4.2.2.1 < (List.length t4.1 : Int) then Option.bind (ZR ((y6 t4.1 t4.2.2.1).1, (y6 t4.1 t4.2.2.1).2.1, (y6 t4.1 t4.2.2.1).2.2.1, (y6 t4.1 t4.2.2.1).2.2.2.1, (y6 t4.1 t4.2.2.1).2.2.2.2, t4.2.2.2.1, t4.2.2.2.2.1, t4.2.2.2.2.2.1, t4.2.2.2.2.2.2.1, t4.2.2.2.2.2.2.2.1)) fun r4 => bif (!r4) then if (0 : Int) ≤ t4.2.2.1 then if t4.2.2.1 < (List.length t4.1 : Int) then if (List.length t4.2.2.2.2.2.2.2.2 + List.length ([((y6 t4.1 t4.2.2.1).1, (y6 t4.1 t4.2.2.1).2.1, (y6 t4.1 t4.2.2.1).2.2.1, (y6 t4.1 t4.2.2.1).2.2.2.1, (y6 t4.1 t4.2.2.1).2.2.2.2)] : List y7)) * 40 < 140737488355328 then again (t4.1, t4.2.1, (Go.IntKind.wrap .i64 (t4.2.2.1 + (1 : Int))), t4.2.2.2.1, t4.2.2.2.2.1, t4.2.2.2.2.2.1, t4.2.2.2.2.2.2.1, t4.2.2.2.2.2.2.2.1, (t4.2.2.2.2.2.2.2.2 ++ ([((y6 t4.1 t4.2.2.1).1, (y6 t4.1 t4.2.2.1).2.1, (y6 t4.1 t4.2.2.1).2.2.1, (y6 t4.1 t4.2.2.1).2.2.2.1, (y6 t4.1 t4.2.2.1).2.2.2.2)] : List y7))) else none else none else none else again (t4.1, t4.2.1, (Go.IntKind.wrap .i64 (t4.2.2.1 + (1 : Int))), t4.2.2.2.1, t4.2.2.2.2.1, t4.2.2.2.2.2.1, t4.2.2.2.2.2.2.1, t4.2.2.2.2.2.2.2.1, t4.2.2.2.2.2.2.2.2) else none else none else k0 (t4.2.1, t4.2.2.2)
def vw k0 := zV (@Z2 R k0) Yg
def zH (x : yxz) : Option (List y7) :=
 vw (fun x5 => bif (!x5.1) then if (List.length x5.2.2.2.2.2.2 + List.length ([(x5.2.1, x5.2.2.1, x5.2.2.2.1, x5.2.2.2.2.1, x5.2.2.2.2.2.1)] : List y7)) * 40 < 140737488355328 then some (x5.2.2.2.2.2.2 ++ ([(x5.2.1, x5.2.2.1, x5.2.2.2.1, x5.2.2.2.2.1, x5.2.2.2.2.2.1)] : List y7)) else none else some x5.2.2.2.2.2.2) (x.1, false, (0 : Int), x.2.1, x.2.2.1, x.2.2.2.1, x.2.2.2.2.1, x.2.2.2.2.2, ([] : List y7))
def yjO : List QF := [yzX, yAW]
def y6A (t : yxw) : St := ⟨qI t.1 :: dd 2 (.box 3 0 :: .dead :: .own 10000000 :: vB t.2.1 :: vI t.2.2.1 :: dd 43 []), [(3, .box [vI t.2.2.2.1, vI t.2.2.2.2.1, vI t.2.2.2.2.2.1, vI t.2.2.2.2.2.2.1, vI t.2.2.2.2.2.2.2.1]), (10000000, .root true 81 yh t.2.2.2.2.2.2.2.2)]⟩
def yid : Gk Ws := fun κ => Z2 (fun t => κ (some 0) ⟨dd 3 (.box 3 0 :: .dead :: .own 10000000 :: vB t.1 :: dd 44 []), [(3, .box [vI t.2.1, vI t.2.2.1, vI t.2.2.2.1, vI t.2.2.2.2.1, vI t.2.2.2.2.2.1]), (10000000, .root true 81 yh t.2.2.2.2.2.2)]⟩)
def yjP : Lp := lpC 4 (unG yxx y6A) @yid lpN
theorem ypk : LF yjO yjP 165 4 Tryz.f165 0 y6A @yid fun t => t := fun R κ again t => by kernel_rfl
theorem ypl : LK yjO yjP 165 Tryz.f165 0 := lkN (u := (unG yxx y6A)) (yu fun t => by kernel_rfl) ypk
theorem ytO : EV yjO yjP 165 Tryz.f165 ynS yxA [(.sl 81 yh)] zH := fun x => by kernel_rfl
def ytP : QF := ⟨165, zH, okN (n := 1) Tryz.func165 ⟨ypl, trivial⟩ ytO⟩
abbrev Wv : Type := ys2
def Zj (k0 : List y7 → Option R) (again : Wv → Option R) (t3 : Wv) : Option R :=
 bif (decide (t3.2.1 < (List.length t3.1 : Int))) then if (0 : Int) ≤ t3.2.1 then if t3.2.1 < (List.length t3.1 : Int) then Option.bind (zH (t3.2.2, (y6 t3.1 t3.2.1).1, (y6 t3.1 t3.2.1).2.1, (y6 t3.1 t3.2.1).2.2.1, (y6 t3.1 t3.2.1).2.2.2.1, (y6 t3.1 t3.2.1).2.2.2.2)) fun r1 => again (t3.1, (Go.IntKind.wrap .i64 (t3.2.1 + (1 : Int))), r1) else none else none else k0 t3.2.2
def Vp k0 := zV (@Zj R k0) Yg
def Zb (x : ysF) : Option (List y7) :=
 if (List.length ([] : List y7) + List.length x.1) * 40 < 140737488355328 then Vp (fun x2 => some x2) (x.2, (0 : Int), (([] : List y7) ++ x.1)) else none
def yjQ : List QF := [ytP]
def y6B (t : ys2) : St := ⟨.dead :: qI t.1 :: dd 3 (.own 10000000 :: vI t.2.1 :: dd 16 []), [(10000000, .root true 81 yh t.2.2)]⟩
def yie : Gk Wv := fun κ => Zj (fun t => κ (some 0) ⟨dd 5 (.own 10000000 :: dd 17 []), [(10000000, .root true 81 yh t)]⟩)
def yjR : Lp := lpC 3 (unG ys3 y6B) @yie lpN
theorem ypm : LF yjQ yjR 176 3 Tryz.f176 0 y6B @yie fun t => t := fun R κ again t => by kernel_rfl
theorem ypn : LK yjQ yjR 176 Tryz.f176 0 := lkN (u := (unG ys3 y6B)) (yu fun t => by kernel_rfl) ypm
theorem ytQ : EV yjQ yjR 176 Tryz.f176 ynT ysG [(.sl 81 yh)] Zb := fun x => by kernel_rfl
def yAX : QF := ⟨176, Zb, okN (n := 1) Tryz.func176 ⟨ypn, trivial⟩ ytQ⟩
abbrev kK : Type := yxB
def ZS (k0 : List y7 → Option R) (again : kK → Option R) (t3 : kK) : Option R :=
 bif (decide (t3.1 < (List.length t3.2.1 : Int))) then if (0 : Int) ≤ t3.1 then if t3.1 < (List.length t3.2.1 : Int) then Option.bind (Zb (t3.2.2, (ym t3.2.1 t3.1))) fun r1 => again ((Go.IntKind.wrap .i64 (t3.1 + (1 : Int))), t3.2.1, r1) else none else none else k0 t3.2.2
def qa k0 := zV (@ZS R k0) Yg
def yA (x : List yb) : Option (List y7) :=
 qa (fun x2 => Option.bind (Y5 x2) fun r3 => some r3) ((0 : Int), x, ([] : List y7))
def yjS : List QF := [ytM, yAX]
def y6C (t : yxB) : St := ⟨.dead :: .box 1 0 :: .dead :: .own 10000000 :: vI t.1 :: dd 17 [], [(1, .box [YA t.2.1]), (10000000, .root true 81 yh t.2.2)]⟩
def yif : Gk kK := fun κ => ZS (fun t => κ (some 0) ⟨dd 3 (.own 10000000 :: dd 18 []), [(10000000, .root true 81 yh t)]⟩)
def yjT : Lp := lpC 3 (unG yxC y6C) @yif lpN
theorem ypo : LF yjS yjT 157 3 Tryz.f157 0 y6C @yif fun t => t := fun R κ again t => by kernel_rfl
theorem ypp : LK yjS yjT 157 Tryz.f157 0 := lkN (u := (unG yxC y6C)) (yu fun t => by kernel_rfl) ypo
theorem ytR : EV yjS yjT 157 Tryz.f157 ynU [(.sl 53 yr)] [(.sl 81 yh)] yA := fun x => by kernel_rfl
def yjU : QF := ⟨157, yA, okN (n := 1) Tryz.func157 ⟨ypp, trivial⟩ ytR⟩
def JW (x : yi5) : Option Int :=
 some (Go.IntKind.wrap .i64 ((Go.IntKind.wrap .i64 ((64 : Int) * x.1)) + x.2))
theorem ytS : EV [] lpN 177 Tryz.f177 ynV yjr [(.int .i64)] JW := fun x => by kernel_rfl
def yzZ : QF := ⟨177, JW, okN (n := 0) Tryz.func177 trivial ytS⟩
def JX (x : yfz) : Option Int :=
 Option.bind (JW (x.1, x.2.1)) fun r1 => some r1
theorem ytT : EV [yzZ] lpN 158 Tryz.f158 ynW VR [(.int .i64)] JX := fun x => by kernel_rfl
def yA0 : QF := ⟨158, JX, okN (n := 0) Tryz.func158 trivial ytT⟩
abbrev vx : Type := yxD
def Ji (k0 : yAo → Option R) (k1 : ysH → Option R) (again : vx → Option R) (t8 : vx) : Option R :=
 if (0 : Int) ≤ t8.2.1 then if t8.2.1 < (List.length t8.2.2.2.2.2 : Int) then bif (decide (t8.2.2.1 < (List.length (ym t8.2.2.2.2.2 t8.2.1) : Int))) then if (0 : Int) ≤ t8.2.1 then if t8.2.1 < (List.length t8.2.2.2.2.2 : Int) then if (0 : Int) ≤ t8.2.2.1 then if t8.2.2.1 < (List.length (ym t8.2.2.2.2.2 t8.2.1) : Int) then Option.bind (JX ((y6 (ym t8.2.2.2.2.2 t8.2.1) t8.2.2.1).1, (y6 (ym t8.2.2.2.2.2 t8.2.1) t8.2.2.1).2.1, (y6 (ym t8.2.2.2.2.2 t8.2.1) t8.2.2.1).2.2.1, (y6 (ym t8.2.2.2.2.2 t8.2.1) t8.2.2.1).2.2.2.1, (y6 (ym t8.2.2.2.2.2 t8.2.1) t8.2.2.1).2.2.2.2)) fun r5 => if (0 : Int) ≤ t8.1 then if t8.1 < (List.length t8.2.2.2.1 : Int) then Option.bind (bif (decide (r5 < (zw t8.2.2.2.1 t8.1))) then some true else Option.bind (bif (decide ((Go.IntKind.wrap .i64 (t8.1 + (1 : Int))) < (List.length t8.2.2.2.1 : Int))) then if (0 : Int) ≤ (Go.IntKind.wrap .i64 (t8.1 + (1 : Int))) then if (Go.IntKind.wrap .i64 (t8.1 + (1 : Int))) < (List.length t8.2.2.2.1 : Int) then some (decide (r5 ≥ (zw t8.2.2.2.1 (Go.IntKind.wrap .i64 (t8.1 + (1 : Int)))))) else none else none else some false) fun u7 => some u7) fun u6 => bif u6 then k0 (t8.1, false, t8.2.1, t8.2.2.2) else again (t8.1, t8.2.1, (Go.IntKind.wrap .i64 (t8.2.2.1 + (1 : Int))), t8.2.2.2.1, t8.2.2.2.2.1, t8.2.2.2.2.2) else none else none else none else none else none else none else k1 (t8.1, t8.2.1, t8.2.2.2) else none else none
def vy k0 k1 := zV (@Ji R k0 k1) Yg
abbrev vz : Type := ysH
def Jj (k0 : Bool → Option R) (k1 : Unit → Option R) (again : vz → Option R) (t5 : vz) : Option R :=
 bif (decide (t5.2.1 < (List.length t5.2.2.2.2 : Int))) then vy (fun x8 => k0 x8.2.1) (fun x9 => again (x9.1, (Go.IntKind.wrap .i64 (x9.2.1 + (1 : Int))), x9.2.2.1, x9.2.2.2.1, x9.2.2.2.2)) (t5.1, t5.2.1, (0 : Int), t5.2.2.1, t5.2.2.2.1, t5.2.2.2.2) else k1 ()
def vA k0 k1 := zV (@Jj R k0 k1) Yg
def Ww (x : ym9) : Option Bool :=
 if (0 : Int) ≤ x.2.2 then if x.2.2 < (List.length x.2.1 : Int) then Option.bind (zm (ye x.2.1 x.2.2)) fun r1 => Option.bind (bif (!r1) then some true else Option.bind (bif (decide (x.2.2 > (0 : Int))) then Option.bind (yA (ye x.2.1 x.2.2)) fun r4 => some ((List.length r4 : Int) == (0 : Int)) else some false) fun u3 => some u3) fun u2 => bif u2 then some false else vA (fun x10 => some x10) (fun x11 => some true) (x.2.2, (0 : Int), x.1, x.2.1, (ye x.2.1 x.2.2)) else none else none
def yez : List QF := [yzY, yjU, yA0]
def y6D (t : yxD) : St := ⟨.dead :: vI t.1 :: .box 2 0 :: dd 2 (.box 5 0 :: vI t.2.1 :: vI t.2.2.1 :: dd 70 []), [(2, .box [zj t.2.2.2.1, yJ t.2.2.2.2.1]), (5, .box [YA t.2.2.2.2.2])]⟩
def yig : Gk vx := fun κ => Ji (fun t => κ none ⟨.dead :: vI t.1 :: .box 2 0 :: .dead :: vB t.2.1 :: .box 5 0 :: vI t.2.2.1 :: dd 71 [], [(2, .box [zj t.2.2.2.1, yJ t.2.2.2.2.1]), (5, .box [YA t.2.2.2.2.2])]⟩) (fun t => κ (some 2) ⟨.dead :: vI t.1 :: .box 2 0 :: dd 2 (.box 5 0 :: vI t.2.1 :: dd 71 []), [(2, .box [zj t.2.2.1, yJ t.2.2.2.1]), (5, .box [YA t.2.2.2.2])]⟩)
def y6E (t : ysH) : St := ⟨.dead :: vI t.1 :: .box 2 0 :: dd 2 (.box 5 0 :: vI t.2.1 :: dd 71 []), [(2, .box [zj t.2.2.1, yJ t.2.2.2.1]), (5, .box [YA t.2.2.2.2])]⟩
def yih : Gk vz := fun κ => Jj (fun t => κ none ⟨dd 4 (vB t :: dd 73 []), []⟩) (fun t => κ (some 0) ⟨dd 78 [], []⟩)
def yeA : Lp := lpC 5 (unG yxF y6E) @yih (lpC 8 (unG yxE y6D) @yig lpN)
theorem ypq : LF yez yeA 136 8 Tryz.f136 1 y6D @yig fun t => t := fun R κ again t => by kernel_rfl
theorem ypr : LK yez yeA 136 Tryz.f136 1 := lkN (u := (unG yxE y6D)) (yu fun t => by kernel_rfl) ypq
theorem yps : LF yez yeA 136 5 Tryz.f136 0 y6E @yih fun t => t := fun R κ again t => by kernel_rfl
theorem ypt : LK yez yeA 136 Tryz.f136 0 := lkN (u := (unG yxF y6E)) (yu fun t => by kernel_rfl) yps
theorem ytU : EV yez yeA 136 Tryz.f136 ynX yma [.bool] Ww := fun x => by kernel_rfl
def yAY : QF := ⟨136, Ww, okN (n := 2) Tryz.func136 ⟨ypt, ypr, trivial⟩ ytU⟩
abbrev kL : Type := yxG
def ZT (k0 : List y7 → Option R) (again : kL → Option R) (t3 : kL) : Option R :=
 bif (decide (t3.1 < (List.length t3.2.2.1 : Int))) then if (0 : Int) ≤ t3.1 then if t3.1 < (List.length t3.2.2.1 : Int) then Option.bind (yA (ye t3.2.2.1 t3.1)) fun r1 => if (List.length t3.2.2.2 + List.length r1) * 40 < 140737488355328 then again ((Go.IntKind.wrap .i64 (t3.1 + (1 : Int))), t3.2.1, t3.2.2.1, (t3.2.2.2 ++ r1)) else none else none else none else k0 t3.2.2.2
def qb k0 := zV (@ZT R k0) Yg
def yN (x : Qz8) : Option (List y7) :=
 qb (fun x2 => some x2) ((0 : Int), x.1, x.2, ([] : List y7))
def yjV : List QF := [yjU]
def y6F (t : yxG) : St := ⟨.dead :: .box 1 0 :: .dead :: .own 10000000 :: vI t.1 :: dd 17 [], [(1, .box [zj t.2.1, yJ t.2.2.1]), (10000000, .root true 81 yh t.2.2.2)]⟩
def yii : Gk kL := fun κ => ZT (fun t => κ (some 0) ⟨dd 3 (.own 10000000 :: dd 18 []), [(10000000, .root true 81 yh t)]⟩)
def yjW : Lp := lpC 3 (unG yxH y6F) @yii lpN
theorem ypu : LF yjV yjW 137 3 Tryz.f137 0 y6F @yii fun t => t := fun R κ again t => by kernel_rfl
theorem ypv : LK yjV yjW 137 Tryz.f137 0 := lkN (u := (unG yxH y6F)) (yu fun t => by kernel_rfl) ypu
theorem ytV : EV yjV yjW 137 Tryz.f137 ynY qz8 [(.sl 81 yh)] yN := fun x => by kernel_rfl
def yjX : QF := ⟨137, yN, okN (n := 1) Tryz.func137 ⟨ypv, trivial⟩ ytV⟩
abbrev vC : Type := y9z
def Jk (k0 : yAp → Option R) (k1 : Qz8 → Option R) (again : vC → Option R) (t4 : vC) : Option R :=
 bif (decide (t4.1 < (List.length t4.2.2 : Int))) then Option.bind (bif (decide (t4.1 > (0 : Int))) then if (0 : Int) ≤ (Go.IntKind.wrap .i64 (t4.1 - (1 : Int))) then if (Go.IntKind.wrap .i64 (t4.1 - (1 : Int))) < (List.length t4.2.1 : Int) then if (0 : Int) ≤ t4.1 then if t4.1 < (List.length t4.2.1 : Int) then some (decide ((zw t4.2.1 (Go.IntKind.wrap .i64 (t4.1 - (1 : Int)))) ≥ (zw t4.2.1 t4.1))) else none else none else none else none else some false) fun u4 => Option.bind (bif u4 then some true else Option.bind (Ww (t4.2.1, t4.2.2, t4.1)) fun r6 => some (!r6)) fun u5 => bif u5 then k0 (false, t4.2) else again ((Go.IntKind.wrap .i64 (t4.1 + (1 : Int))), t4.2.1, t4.2.2) else k1 t4.2
def Qx k0 k1 := zV (@Jk R k0 k1) Yg
def Yv (x : Qz8) : Option Bool :=
 Option.bind (yz ((List.length x.2 : Int), (1 : Int), (20 : Int))) fun r1 => Option.bind (bif (!r1) then some true else some ((List.length x.1 : Int) != (List.length x.2 : Int))) fun u2 => Option.bind (bif u2 then some true else if (0 : Int) ≤ (0 : Int) then if (0 : Int) < (List.length x.1 : Int) then some ((zw x.1 (0 : Int)) != (0 : Int)) else none else none) fun u3 => bif u3 then some false else Qx (fun x7 => some x7.1) (fun x8 => Option.bind (yN x8) fun r9 => some (decide ((List.length r9 : Int) ≤ (60 : Int)))) ((0 : Int), x.1, x.2)
def yjY : List QF := [y6t, yAY, yjX]
def y6G (t : y9z) : St := ⟨.dead :: .box 1 0 :: .dead :: vI t.1 :: dd 54 [], [(1, .box [zj t.2.1, yJ t.2.2])]⟩
def yij : Gk vC := fun κ => Jk (fun t => κ none ⟨.dead :: .box 1 0 :: vB t.1 :: dd 55 [], [(1, .box [zj t.2.1, yJ t.2.2])]⟩) (fun t => κ (some 0) ⟨.dead :: .box 1 0 :: dd 56 [], [(1, .box [zj t.1, yJ t.2])]⟩)
def yjZ : Lp := lpC 4 (unG yfA y6G) @yij lpN
theorem ypw : LF yjY yjZ 110 4 Tryz.f110 0 y6G @yij fun t => t := fun R κ again t => by kernel_rfl
theorem ypx : LK yjY yjZ 110 Tryz.f110 0 := lkN (u := (unG yfA y6G)) (yu fun t => by kernel_rfl) ypw
theorem ytW : EV yjY yjZ 110 Tryz.f110 ynZ qz8 [.bool] Yv := fun x => by kernel_rfl
def yA1 : QF := ⟨110, Yv, okN (n := 1) Tryz.func110 ⟨ypx, trivial⟩ ytW⟩
abbrev VC : Type := ys4
def wv (k0 : Int → Option R) (k1 : Unit → Option R) (again : VC → Option R) (t2 : VC) : Option R :=
 bif (decide (t2.2.2 < (List.length t2.1 : Int))) then if (0 : Int) ≤ t2.2.2 then if t2.2.2 < (List.length t2.1 : Int) then bif ((yM t2.1 t2.2.2).1 == t2.2.1) then k0 t2.2.2 else again (t2.1, t2.2.1, (Go.IntKind.wrap .i64 (t2.2.2 + (1 : Int)))) else none else none else k1 ()
def y0I k0 k1 := zV (@wv R k0 k1) Yg
def zP (x : yfB) : Option Int :=
 y0I (fun x1 => some x1) (fun x2 => some (-1 : Int)) (x.1, x.2, (0 : Int))
def yk0 : List QF := []
def y6H (t : ys4) : St := ⟨zz t.1 :: vI t.2.1 :: dd 3 (vI t.2.2 :: dd 14 []), []⟩
def yik : Gk VC := fun κ => wv (fun t => κ none ⟨dd 4 (vI t :: dd 15 []), []⟩) (fun t => κ (some 0) ⟨dd 20 [], []⟩)
def yk1 : Lp := lpC 2 (unG ys5 y6H) @yik lpN
theorem ypy : LF yk0 yk1 138 2 Tryz.f138 0 y6H @yik fun t => t := fun R κ again t => by kernel_rfl
theorem ypz : LK yk0 yk1 138 Tryz.f138 0 := lkN (u := (unG ys5 y6H)) (yu fun t => by kernel_rfl) ypy
theorem ytX : EV yk0 yk1 138 Tryz.f138 yo0 yfC [(.int .i64)] zP := fun x => by kernel_rfl
def ylQ : QF := ⟨138, zP, okN (n := 1) Tryz.func138 ⟨ypz, trivial⟩ ytX⟩
abbrev vD : Type := yfB
def Jl (k0 : ymb → Option R) (k1 : List y9 → Option R) (again : vD → Option R) (t2 : vD) : Option R :=
 bif (decide (t2.2 < (List.length t2.1 : Int))) then if (0 : Int) ≤ t2.2 then if t2.2 < (List.length t2.1 : Int) then Option.bind (yz ((yM t2.1 t2.2).1, (1 : Int), (60 : Int))) fun r1 => Option.bind (bif (!r1) then some true else Option.bind (bif (decide (t2.2 > (0 : Int))) then if (0 : Int) ≤ (Go.IntKind.wrap .i64 (t2.2 - (1 : Int))) then if (Go.IntKind.wrap .i64 (t2.2 - (1 : Int))) < (List.length t2.1 : Int) then if (0 : Int) ≤ t2.2 then if t2.2 < (List.length t2.1 : Int) then some (decide ((yM t2.1 (Go.IntKind.wrap .i64 (t2.2 - (1 : Int)))).1 ≥ (yM t2.1 t2.2).1)) else none else none else none else none else some false) fun u3 => some u3) fun u2 => bif u2 then k0 (t2.1, false) else if (0 : Int) ≤ t2.2 then if t2.2 < (List.length t2.1 : Int) then Option.bind (bif ((yM t2.1 t2.2).2 != (0 : Int)) then if (0 : Int) ≤ (0 : Int) then if (0 : Int) ≤ t2.2 then if t2.2 ≤ (List.length t2.1 : Int) then if (0 : Int) ≤ t2.2 then if t2.2 < (List.length t2.1 : Int) then Option.bind (zP ((List.drop (Int.toNat (0 : Int)) (List.take (Int.toNat t2.2) t2.1)), (yM t2.1 t2.2).2)) fun r5 => some (decide (r5 < (0 : Int))) else none else none else none else none else none else some false) fun u4 => bif u4 then k0 (t2.1, false) else again (t2.1, (Go.IntKind.wrap .i64 (t2.2 + (1 : Int)))) else none else none else none else none else k1 t2.1
def Qy k0 k1 := zV (@Jl R k0 k1) Yg
def Zk (x : List y9) : Option Bool :=
 Qy (fun x6 => some x6.2) (fun x7 => some (decide ((List.length x7 : Int) ≤ (16 : Int)))) (x, (0 : Int))
def yk2 : List QF := [y6t, ylQ]
def y6I (t : yfB) : St := ⟨zz t.1 :: dd 2 (vI t.2 :: dd 52 []), []⟩
def yil : Gk vD := fun κ => Jl (fun t => κ none ⟨zz t.1 :: .dead :: vB t.2 :: dd 53 [], []⟩) (fun t => κ (some 0) ⟨zz t :: dd 55 [], []⟩)
def yk3 : Lp := lpC 2 (unG yfC y6I) @yil lpN
theorem ypA : LF yk2 yk3 111 2 Tryz.f111 0 y6I @yil fun t => t := fun R κ again t => by kernel_rfl
theorem ypB : LK yk2 yk3 111 Tryz.f111 0 := lkN (u := (unG yfC y6I)) (yu fun t => by kernel_rfl) ypA
theorem ytY : EV yk2 yk3 111 Tryz.f111 yo1 [(.sl 91 yl)] [.bool] Zk := fun x => by kernel_rfl
def ytZ : QF := ⟨111, Zk, okN (n := 1) Tryz.func111 ⟨ypB, trivial⟩ ytY⟩
abbrev KK : Type := ylK
def jJ (k0 : yxI → Option R) (k1 : List y8 → Option R) (again : KK → Option R) (t2 : KK) : Option R :=
 bif (decide (t2.2 < (List.length t2.1 : Int))) then if (0 : Int) ≤ t2.2 then if t2.2 < (List.length t2.1 : Int) then Option.bind (yz ((yo t2.1 t2.2).1, (0 : Int), (999 : Int))) fun r1 => Option.bind (bif (!r1) then some true else if (0 : Int) ≤ t2.2 then if t2.2 < (List.length t2.1 : Int) then Option.bind (zl ((yo t2.1 t2.2).2.2)) fun r3 => some (!r3) else none else none) fun u2 => Option.bind (bif u2 then some true else if (0 : Int) ≤ t2.2 then if t2.2 < (List.length t2.1 : Int) then Option.bind (bif (!((yo t2.1 t2.2).2.1)) then if (0 : Int) ≤ t2.2 then if t2.2 < (List.length t2.1 : Int) then some ((yo t2.1 t2.2).2.2 != (0 : Int)) else none else none else some false) fun u5 => some u5 else none else none) fun u4 => bif u4 then k0 (t2.1, false) else again (t2.1, (Go.IntKind.wrap .i64 (t2.2 + (1 : Int)))) else none else none else k1 t2.1
def Q2 k0 k1 := zV (@jJ R k0 k1) Yg
def ZJ (x : List y8) : Option Bool :=
 Q2 (fun x6 => some x6.2) (fun x7 => some ((List.length x7 : Int) == (24 : Int))) (x, (0 : Int))
def yk4 : List QF := [y6t, ysi]
def y6J (t : ylK) : St := ⟨z7 t.1 :: dd 2 (vI t.2 :: dd 41 []), []⟩
def yim : Gk KK := fun κ => jJ (fun t => κ none ⟨z7 t.1 :: .dead :: vB t.2 :: dd 42 [], []⟩) (fun t => κ (some 0) ⟨z7 t :: dd 44 [], []⟩)
def yk5 : Lp := lpC 2 (unG ylL y6J) @yim lpN
theorem ypC : LF yk4 yk5 112 2 Tryz.f112 0 y6J @yim fun t => t := fun R κ again t => by kernel_rfl
theorem ypD : LK yk4 yk5 112 Tryz.f112 0 := lkN (u := (unG ylL y6J)) (yu fun t => by kernel_rfl) ypC
theorem yu0 : EV yk4 yk5 112 Tryz.f112 yo2 [(.sl 79 yg)] [.bool] ZJ := fun x => by kernel_rfl
def yu1 : QF := ⟨112, ZJ, okN (n := 1) Tryz.func112 ⟨ypD, trivial⟩ yu0⟩
abbrev vE : Type := yxJ
def Jm (k0 : List yd → Option R) (again : vE → Option R) (t3 : vE) : Option R :=
 bif (decide (t3.2.2.1 < (List.length t3.1 : Int))) then if (0 : Int) ≤ t3.2.2.1 then if t3.2.2.1 < (List.length t3.1 : Int) then Option.bind (bif ((yM t3.1 t3.2.2.1).2 == t3.2.1) then some (t3.2.1 != (0 : Int)) else some false) fun u1 => bif u1 then if (0 : Int) ≤ t3.2.2.1 then if t3.2.2.1 < (List.length t3.1 : Int) then if (List.length t3.2.2.2 + List.length ([(yM t3.1 t3.2.2.1).1] : List yd)) * 8 < 140737488355328 then again (t3.1, t3.2.1, (Go.IntKind.wrap .i64 (t3.2.2.1 + (1 : Int))), (t3.2.2.2 ++ ([(yM t3.1 t3.2.2.1).1] : List yd))) else none else none else none else again (t3.1, t3.2.1, (Go.IntKind.wrap .i64 (t3.2.2.1 + (1 : Int))), t3.2.2.2) else none else none else k0 t3.2.2.2
def Qz k0 := zV (@Jm R k0) Yg
def jt (x : yfB) : Option (List yd) :=
 Qz (fun x2 => some x2) (x.1, x.2, (0 : Int), ([] : List yd))
def yk6 : List QF := []
def y6K (t : yxJ) : St := ⟨zz t.1 :: vI t.2.1 :: dd 3 (.own 10000000 :: vI t.2.2.1 :: dd 27 []), [(10000000, .root true 3 yf t.2.2.2)]⟩
def yin : Gk vE := fun κ => Jm (fun t => κ (some 0) ⟨dd 5 (.own 10000000 :: dd 28 []), [(10000000, .root true 3 yf t)]⟩)
def yk7 : Lp := lpC 3 (unG yxK y6K) @yin lpN
theorem ypE : LF yk6 yk7 139 3 Tryz.f139 0 y6K @yin fun t => t := fun R κ again t => by kernel_rfl
theorem ypF : LK yk6 yk7 139 Tryz.f139 0 := lkN (u := (unG yxK y6K)) (yu fun t => by kernel_rfl) ypE
theorem yu2 : EV yk6 yk7 139 Tryz.f139 yo3 yfC [(.sl 3 yf)] jt := fun x => by kernel_rfl
def yu3 : QF := ⟨139, jt, okN (n := 1) Tryz.func139 ⟨ypF, trivial⟩ yu2⟩
abbrev KL : Type := yxL
def jK (k0 : ysJ → Option R) (k1 : yfD → Option R) (again : KL → Option R) (t8 : KL) : Option R :=
 bif (decide (t8.2.1 < t8.1)) then if (0 : Int) ≤ t8.2.1 then if t8.2.1 < (List.length t8.2.2.2.2.2.2.1 : Int) then bif ((ya t8.2.2.2.2.2.2.1 t8.2.1).2.1 == t8.2.2.2.2.2.2.2.2.2.1) then k0 (false, t8.1, t8.2.2.1, t8.2.2.2.1, t8.2.2.2.2.1, t8.2.2.2.2.2.1, t8.2.2.2.2.2.2.1, t8.2.2.2.2.2.2.2.1) else again (t8.1, (Go.IntKind.wrap .i64 (t8.2.1 + (1 : Int))), t8.2.2.1, t8.2.2.2.1, t8.2.2.2.2.1, t8.2.2.2.2.2.1, t8.2.2.2.2.2.2.1, t8.2.2.2.2.2.2.2.1, t8.2.2.2.2.2.2.2.2.1, t8.2.2.2.2.2.2.2.2.2.1, t8.2.2.2.2.2.2.2.2.2.2.1, t8.2.2.2.2.2.2.2.2.2.2.2) else none else none else k1 (t8.1, t8.2.2.1, t8.2.2.2.1, t8.2.2.2.2.1, t8.2.2.2.2.2.1, t8.2.2.2.2.2.2.1, t8.2.2.2.2.2.2.2.1)
def KM k0 k1 := zV (@jK R k0 k1) Yg
abbrev KN : Type := yfD
def jL (k0 : yi6 → Option R) (k1 : Qz9 → Option R) (again : KN → Option R) (t2 : KN) : Option R :=
 bif (decide (t2.1 < (List.length t2.2.2.2.2.2.1 : Int))) then if (0 : Int) ≤ t2.1 then if t2.1 < (List.length t2.2.2.2.2.2.1 : Int) then Option.bind (Yu ((ya t2.2.2.2.2.2.1 t2.1).1)) fun r1 => Option.bind (bif (!r1) then some true else Option.bind (yz ((ya t2.2.2.2.2.2.1 t2.1).2.2.1, (1 : Int), (12 : Int))) fun r3 => some (!r3)) fun u2 => Option.bind (bif u2 then some true else Option.bind (zP (t2.2.2.2.1, (ya t2.2.2.2.2.2.1 t2.1).2.1)) fun r5 => some (decide (r5 < (0 : Int)))) fun u4 => Option.bind (bif u4 then some true else Option.bind (jt (t2.2.2.2.1, (ya t2.2.2.2.2.2.1 t2.1).2.1)) fun r7 => some (decide ((List.length r7 : Int) > (0 : Int)))) fun u6 => Option.bind (bif u6 then some true else Option.bind (bif (decide (t2.1 > (0 : Int))) then if (0 : Int) ≤ (Go.IntKind.wrap .i64 (t2.1 - (1 : Int))) then if (Go.IntKind.wrap .i64 (t2.1 - (1 : Int))) < (List.length t2.2.2.2.2.2.1 : Int) then some (!Go.Op.bytesLess (ByteArray.toList ((ya t2.2.2.2.2.2.1 (Go.IntKind.wrap .i64 (t2.1 - (1 : Int)))).1)) (ByteArray.toList ((ya t2.2.2.2.2.2.1 t2.1).1))) else none else none else some false) fun u9 => some u9) fun u8 => bif u8 then k0 (false, t2.2) else KM (fun x10 => k0 (x10.1, x10.2.2)) (fun x11 => again ((Go.IntKind.wrap .i64 (x11.1 + (1 : Int))), x11.2.1, x11.2.2.1, x11.2.2.2.1, x11.2.2.2.2.1, x11.2.2.2.2.2.1, x11.2.2.2.2.2.2)) (t2.1, (0 : Int), t2.2.1, t2.2.2.1, t2.2.2.2.1, t2.2.2.2.2.1, t2.2.2.2.2.2.1, t2.2.2.2.2.2.2, (ya t2.2.2.2.2.2.1 t2.1).1, (ya t2.2.2.2.2.2.1 t2.1).2.1, (ya t2.2.2.2.2.2.1 t2.1).2.2.1, (ya t2.2.2.2.2.2.1 t2.1).2.2.2) else none else none else k1 t2.2
def Q3 k0 k1 := zV (@jL R k0 k1) Yg
def ww (x : Qz9) : Option Bool :=
 Q3 (fun x12 => some x12.1) (fun x13 => some (decide ((List.length x13.2.2.2.2.1 : Int) ≤ (6 : Int)))) ((0 : Int), x.1, x.2.1, x.2.2.1, x.2.2.2.1, x.2.2.2.2.1, x.2.2.2.2.2)
def yeB : List QF := [ysh, y6t, ylQ, yu3]
def y6L (t : yxL) : St := ⟨.dead :: .box 1 0 :: .dead :: vI t.1 :: .box 4 0 :: vI t.2.1 :: dd 73 [], [(1, .box [zj t.2.2.1, yJ t.2.2.2.1, zz t.2.2.2.2.1, z7 t.2.2.2.2.2.1, Yh t.2.2.2.2.2.2.1, vI t.2.2.2.2.2.2.2.1]), (4, .box [vS t.2.2.2.2.2.2.2.2.1, vI t.2.2.2.2.2.2.2.2.2.1, vI t.2.2.2.2.2.2.2.2.2.2.1, vB t.2.2.2.2.2.2.2.2.2.2.2])]⟩
def yio : Gk KL := fun κ => jK (fun t => κ none ⟨.dead :: .box 1 0 :: vB t.1 :: vI t.2.1 :: dd 75 [], [(1, .box [zj t.2.2.1, yJ t.2.2.2.1, zz t.2.2.2.2.1, z7 t.2.2.2.2.2.1, Yh t.2.2.2.2.2.2.1, vI t.2.2.2.2.2.2.2])]⟩) (fun t => κ (some 2) ⟨.dead :: .box 1 0 :: .dead :: vI t.1 :: dd 75 [], [(1, .box [zj t.2.1, yJ t.2.2.1, zz t.2.2.2.1, z7 t.2.2.2.2.1, Yh t.2.2.2.2.2.1, vI t.2.2.2.2.2.2])]⟩)
def y6M (t : yfD) : St := ⟨.dead :: .box 1 0 :: .dead :: vI t.1 :: dd 75 [], [(1, .box [zj t.2.1, yJ t.2.2.1, zz t.2.2.2.1, z7 t.2.2.2.2.1, Yh t.2.2.2.2.2.1, vI t.2.2.2.2.2.2])]⟩
def yip : Gk KN := fun κ => jL (fun t => κ none ⟨.dead :: .box 1 0 :: vB t.1 :: dd 76 [], [(1, .box [zj t.2.1, yJ t.2.2.1, zz t.2.2.2.1, z7 t.2.2.2.2.1, Yh t.2.2.2.2.2.1, vI t.2.2.2.2.2.2])]⟩) (fun t => κ (some 0) ⟨.dead :: .box 1 0 :: dd 77 [], [(1, .box [zj t.1, yJ t.2.1, zz t.2.2.1, z7 t.2.2.2.1, Yh t.2.2.2.2.1, vI t.2.2.2.2.2])]⟩)
def yeC : Lp := lpC 2 (unG ylM y6M) @yip (lpC 8 (unG yxM y6L) @yio lpN)
theorem ypG : LF yeB yeC 113 8 Tryz.f113 1 y6L @yio fun t => t := fun R κ again t => by kernel_rfl
theorem ypH : LK yeB yeC 113 Tryz.f113 1 := lkN (u := (unG yxM y6L)) (yu fun t => by kernel_rfl) ypG
theorem ypI : LF yeB yeC 113 2 Tryz.f113 0 y6M @yip fun t => t := fun R κ again t => by kernel_rfl
theorem ypJ : LK yeB yeC 113 Tryz.f113 0 := lkN (u := (unG ylM y6M)) (yu fun t => by kernel_rfl) ypI
theorem yu4 : EV yeB yeC 113 Tryz.f113 yo4 qz9 [.bool] ww := fun x => by kernel_rfl
def yAZ : QF := ⟨113, ww, okN (n := 2) Tryz.func113 ⟨ypJ, ypH, trivial⟩ yu4⟩
def JY (x : ylN) : Option yxN :=
 Option.bind (yz (x.2.1, (0 : Int), (Go.IntKind.wrap .i64 ((List.length x.1 : Int) - (1 : Int))))) fun r1 => Option.bind (bif (!r1) then some true else if (0 : Int) ≤ x.2.1 then if x.2.1 < (List.length x.1 : Int) then some (!((yo x.1 x.2.1).2.1)) else none else none) fun u2 => Option.bind (bif u2 then some true else if (0 : Int) ≤ x.2.1 then if x.2.1 < (List.length x.1 : Int) then some ((yo x.1 x.2.1).1 != x.2.2) else none else none) fun u3 => bif u3 then some ((0 : Int), false) else if (0 : Int) ≤ x.2.1 then if x.2.1 < (List.length x.1 : Int) then some ((yo x.1 x.2.1).2.2, true) else none else none
theorem yu5 : EV [y6t] lpN 140 Tryz.f140 yo5 ylO yxO JY := fun x => by kernel_rfl
def yB0 : QF := ⟨140, JY, okN (n := 0) Tryz.func140 trivial yu5⟩
abbrev Wx : Type := ylN
def Zl (k0 : Int → Option R) (again : Wx → Option R) (t3 : Wx) : Option R :=
 bif (decide (t3.2.2 < (List.length t3.1 : Int))) then if (0 : Int) ≤ t3.2.2 then if t3.2.2 < (List.length t3.1 : Int) then bif (yo t3.1 t3.2.2).2.1 then again (t3.1, (Go.IntKind.wrap .i64 (t3.2.1 + (1 : Int))), (Go.IntKind.wrap .i64 (t3.2.2 + (1 : Int)))) else again (t3.1, t3.2.1, (Go.IntKind.wrap .i64 (t3.2.2 + (1 : Int)))) else none else none else k0 t3.2.1
def Vq k0 := zV (@Zl R k0) Yg
def jM (x : List y8) : Option Int :=
 Vq (fun x1 => some x1) (x, (0 : Int), (0 : Int))
def yk8 : List QF := []
def y6N (t : ylN) : St := ⟨z7 t.1 :: dd 2 (vI t.2.1 :: vI t.2.2 :: dd 14 []), []⟩
def yiq : Gk Wx := fun κ => Zl (fun t => κ (some 0) ⟨dd 3 (vI t :: dd 15 []), []⟩)
def yk9 : Lp := lpC 3 (unG ylO y6N) @yiq lpN
theorem ypK : LF yk8 yk9 141 3 Tryz.f141 0 y6N @yiq fun t => t := fun R κ again t => by kernel_rfl
theorem ypL : LK yk8 yk9 141 Tryz.f141 0 := lkN (u := (unG ylO y6N)) (yu fun t => by kernel_rfl) ypK
theorem yu6 : EV yk8 yk9 141 Tryz.f141 yo6 [(.sl 79 yg)] [(.int .i64)] jM := fun x => by kernel_rfl
def yB1 : QF := ⟨141, jM, okN (n := 1) Tryz.func141 ⟨ypL, trivial⟩ yu6⟩
abbrev kM : Type := ysK
def ZU (k0 : yAq → Option R) (k1 : yjs → Option R) (again : kM → Option R) (t14 : kM) : Option R :=
 bif (decide (t14.2.2.1 < t14.2.1)) then if (0 : Int) ≤ t14.2.2.1 then if t14.2.2.1 < (List.length t14.2.2.2.2.2.2.2.2.2 : Int) then Option.bind (bif ((y6 t14.2.2.2.2.2.2.2.2.2 t14.2.2.1).2.2.1 == (1 : Int)) then if (0 : Int) ≤ t14.2.2.1 then if t14.2.2.1 < (List.length t14.2.2.2.2.2.2.2.2.2 : Int) then if (0 : Int) ≤ t14.2.1 then if t14.2.1 < (List.length t14.2.2.2.2.2.2.2.2.2 : Int) then some ((y6 t14.2.2.2.2.2.2.2.2.2 t14.2.2.1).2.2.2.1 == (y6 t14.2.2.2.2.2.2.2.2.2 t14.2.1).2.2.2.1) else none else none else none else none else some false) fun u4 => bif u4 then k0 (false, t14.1, t14.2.1, t14.2.2.2) else again (t14.1, t14.2.1, (Go.IntKind.wrap .i64 (t14.2.2.1 + (1 : Int))), t14.2.2.2.1, t14.2.2.2.2.1, t14.2.2.2.2.2.1, t14.2.2.2.2.2.2.1, t14.2.2.2.2.2.2.2.1, t14.2.2.2.2.2.2.2.2.1, t14.2.2.2.2.2.2.2.2.2) else none else none else k1 (t14.1, t14.2.1, t14.2.2.2)
def kN k0 k1 := zV (@ZU R k0 k1) Yg
abbrev KO : Type := yjs
def jN (k0 : ysJ → Option R) (k1 : yfD → Option R) (again : KO → Option R) (t4 : KO) : Option R :=
 bif (decide (t4.2.1 < (List.length t4.2.2.2.2.2.2.2.2 : Int))) then if (0 : Int) ≤ t4.2.1 then if t4.2.1 < (List.length t4.2.2.2.2.2.2.2.2 : Int) then Option.bind (zP (t4.2.2.2.2.1, (y6 t4.2.2.2.2.2.2.2.2 t4.2.1).2.1)) fun r2 => bif (decide (r2 < (0 : Int))) then k0 (false, t4.1, t4.2.2.1, t4.2.2.2.1, t4.2.2.2.2.1, t4.2.2.2.2.2.1, t4.2.2.2.2.2.2.1, t4.2.2.2.2.2.2.2.1) else if (0 : Int) ≤ t4.2.1 then if t4.2.1 < (List.length t4.2.2.2.2.2.2.2.2 : Int) then bif ((y6 t4.2.2.2.2.2.2.2.2 t4.2.1).2.2.1 != (1 : Int)) then again (t4.1, (Go.IntKind.wrap .i64 (t4.2.1 + (1 : Int))), t4.2.2.1, t4.2.2.2.1, t4.2.2.2.2.1, t4.2.2.2.2.2.1, t4.2.2.2.2.2.2.1, t4.2.2.2.2.2.2.2.1, t4.2.2.2.2.2.2.2.2) else if (0 : Int) ≤ t4.2.1 then if t4.2.1 < (List.length t4.2.2.2.2.2.2.2.2 : Int) then if (0 : Int) ≤ t4.2.1 then if t4.2.1 < (List.length t4.2.2.2.2.2.2.2.2 : Int) then Option.bind (JY (t4.2.2.2.2.2.1, (y6 t4.2.2.2.2.2.2.2.2 t4.2.1).2.2.2.1, (y6 t4.2.2.2.2.2.2.2.2 t4.2.1).2.2.2.2)) fun r3 => bif (!r3.2) then k0 (false, (Go.IntKind.wrap .i64 (t4.1 + (1 : Int))), t4.2.2.1, t4.2.2.2.1, t4.2.2.2.2.1, t4.2.2.2.2.2.1, t4.2.2.2.2.2.2.1, t4.2.2.2.2.2.2.2.1) else kN (fun x5 => k0 (x5.1, x5.2.1, x5.2.2.2.1, x5.2.2.2.2.1, x5.2.2.2.2.2.1, x5.2.2.2.2.2.2.1, x5.2.2.2.2.2.2.2.1, x5.2.2.2.2.2.2.2.2.1)) (fun x6 => again (x6.1, (Go.IntKind.wrap .i64 (x6.2.1 + (1 : Int))), x6.2.2.1, x6.2.2.2.1, x6.2.2.2.2.1, x6.2.2.2.2.2.1, x6.2.2.2.2.2.2.1, x6.2.2.2.2.2.2.2.1, x6.2.2.2.2.2.2.2.2)) ((Go.IntKind.wrap .i64 (t4.1 + (1 : Int))), t4.2.1, (0 : Int), t4.2.2.1, t4.2.2.2.1, t4.2.2.2.2.1, t4.2.2.2.2.2.1, t4.2.2.2.2.2.2.1, t4.2.2.2.2.2.2.2.1, t4.2.2.2.2.2.2.2.2) else none else none else none else none else none else none else none else none else k1 (t4.1, t4.2.2.1, t4.2.2.2.1, t4.2.2.2.2.1, t4.2.2.2.2.2.1, t4.2.2.2.2.2.2.1, t4.2.2.2.2.2.2.2.1)
def Q4 k0 k1 := zV (@jN R k0 k1) Yg
def wx (x : Qz9) : Option Bool :=
 Option.bind (yN (x.1, x.2.1)) fun r1 => Q4 (fun x7 => some x7.1) (fun x8 => Option.bind (jM x8.2.2.2.2.1) fun r9 => some (x8.1 == r9)) ((0 : Int), (0 : Int), x.1, x.2.1, x.2.2.1, x.2.2.2.1, x.2.2.2.2.1, x.2.2.2.2.2, r1)
def yeD : List QF := [yjX, ylQ, yB0, yB1]
def y4a (t : ysK) : St := ⟨.dead :: .box 1 0 :: .dead :: .own 10000000 :: vI t.1 :: vI t.2.1 :: dd 2 (vI t.2.2.1 :: dd 73 []), [(1, .box [zj t.2.2.2.1, yJ t.2.2.2.2.1, zz t.2.2.2.2.2.1, z7 t.2.2.2.2.2.2.1, Yh t.2.2.2.2.2.2.2.1, vI t.2.2.2.2.2.2.2.2.1]), (10000000, .root true 81 yh t.2.2.2.2.2.2.2.2.2)]⟩
def yeE : Gk kM := fun κ => ZU (fun t => κ none ⟨.dead :: .box 1 0 :: vB t.1 :: .own 10000000 :: vI t.2.1 :: vI t.2.2.1 :: dd 76 [], [(1, .box [zj t.2.2.2.1, yJ t.2.2.2.2.1, zz t.2.2.2.2.2.1, z7 t.2.2.2.2.2.2.1, Yh t.2.2.2.2.2.2.2.1, vI t.2.2.2.2.2.2.2.2.1]), (10000000, .root true 81 yh t.2.2.2.2.2.2.2.2.2)]⟩) (fun t => κ (some 2) ⟨.dead :: .box 1 0 :: .dead :: .own 10000000 :: vI t.1 :: vI t.2.1 :: dd 76 [], [(1, .box [zj t.2.2.1, yJ t.2.2.2.1, zz t.2.2.2.2.1, z7 t.2.2.2.2.2.1, Yh t.2.2.2.2.2.2.1, vI t.2.2.2.2.2.2.2.1]), (10000000, .root true 81 yh t.2.2.2.2.2.2.2.2)]⟩)
def y6O (t : yjs) : St := ⟨.dead :: .box 1 0 :: .dead :: .own 10000000 :: vI t.1 :: vI t.2.1 :: dd 76 [], [(1, .box [zj t.2.2.1, yJ t.2.2.2.1, zz t.2.2.2.2.1, z7 t.2.2.2.2.2.1, Yh t.2.2.2.2.2.2.1, vI t.2.2.2.2.2.2.2.1]), (10000000, .root true 81 yh t.2.2.2.2.2.2.2.2)]⟩
def yir : Gk KO := fun κ => jN (fun t => κ none ⟨.dead :: .box 1 0 :: vB t.1 :: .dead :: vI t.2.1 :: dd 77 [], [(1, .box [zj t.2.2.1, yJ t.2.2.2.1, zz t.2.2.2.2.1, z7 t.2.2.2.2.2.1, Yh t.2.2.2.2.2.2.1, vI t.2.2.2.2.2.2.2])]⟩) (fun t => κ (some 0) ⟨.dead :: .box 1 0 :: dd 2 (vI t.1 :: dd 77 []), [(1, .box [zj t.2.1, yJ t.2.2.1, zz t.2.2.2.1, z7 t.2.2.2.2.1, Yh t.2.2.2.2.2.1, vI t.2.2.2.2.2.2])]⟩)
def yeF : Lp := lpC 4 (unG ylP y6O) @yir (lpC 14 (unG yxP y4a) @yeE lpN)
theorem yka : LF yeD yeF 114 14 Tryz.f114 1 y4a @yeE fun t => t := fun R κ again t => by kernel_rfl
theorem ykb : LK yeD yeF 114 Tryz.f114 1 := lkN (u := (unG yxP y4a)) (yu fun t => by kernel_rfl) yka
theorem ypM : LF yeD yeF 114 4 Tryz.f114 0 y6O @yir fun t => t := fun R κ again t => by kernel_rfl
theorem ypN : LK yeD yeF 114 Tryz.f114 0 := lkN (u := (unG ylP y6O)) (yu fun t => by kernel_rfl) ypM
theorem yu7 : EV yeD yeF 114 Tryz.f114 yo7 qz9 [.bool] wx := fun x => by kernel_rfl
def yB2 : QF := ⟨114, wx, okN (n := 2) Tryz.func114 ⟨ypN, ykb, trivial⟩ yu7⟩
abbrev vF : Type := yfD
def Jn (k0 : yi6 → Option R) (k1 : Qz9 → Option R) (again : vF → Option R) (t2 : vF) : Option R :=
 bif (decide (t2.1 < (List.length t2.2.2.2.1 : Int))) then if (0 : Int) ≤ t2.1 then if t2.1 < (List.length t2.2.2.2.1 : Int) then bif (decide ((yM t2.2.2.2.1 t2.1).1 ≥ t2.2.2.2.2.2.2)) then k0 (false, t2.2) else again ((Go.IntKind.wrap .i64 (t2.1 + (1 : Int))), t2.2.1, t2.2.2.1, t2.2.2.2.1, t2.2.2.2.2.1, t2.2.2.2.2.2.1, t2.2.2.2.2.2.2) else none else none else k1 t2.2
def QA k0 k1 := zV (@Jn R k0 k1) Yg
def yH (x : Qz9) : Option Bool :=
 QA (fun x1 => some x1.1) (fun x2 => Option.bind (Yv (x2.1, x2.2.1)) fun r3 => Option.bind (bif r3 then Option.bind (Zk x2.2.2.1) fun r5 => some r5 else some false) fun u4 => Option.bind (bif u4 then Option.bind (ZJ x2.2.2.2.1) fun r7 => some r7 else some false) fun u6 => Option.bind (bif u6 then Option.bind (yz (x2.2.2.2.2.2, (1 : Int), (61 : Int))) fun r9 => some r9 else some false) fun u8 => Option.bind (bif u8 then Option.bind (ww x2) fun r11 => some r11 else some false) fun u10 => Option.bind (bif u10 then Option.bind (wx x2) fun r13 => some r13 else some false) fun u12 => some u12) ((0 : Int), x.1, x.2.1, x.2.2.1, x.2.2.2.1, x.2.2.2.2.1, x.2.2.2.2.2)
def yu8 : List QF := [y6t, yA1, ytZ, yu1, yAZ, yB2]
def yac (t : yfD) : St := ⟨.dead :: .box 1 0 :: .dead :: vI t.1 :: dd 42 [], [(1, .box [zj t.2.1, yJ t.2.2.1, zz t.2.2.2.1, z7 t.2.2.2.2.1, Yh t.2.2.2.2.2.1, vI t.2.2.2.2.2.2])]⟩
def ypO : Gk vF := fun κ => Jn (fun t => κ none ⟨.dead :: .box 1 0 :: vB t.1 :: dd 43 [], [(1, .box [zj t.2.1, yJ t.2.2.1, zz t.2.2.2.1, z7 t.2.2.2.2.1, Yh t.2.2.2.2.2.1, vI t.2.2.2.2.2.2])]⟩) (fun t => κ (some 0) ⟨.dead :: .box 1 0 :: dd 44 [], [(1, .box [zj t.1, yJ t.2.1, zz t.2.2.1, z7 t.2.2.2.1, Yh t.2.2.2.2.1, vI t.2.2.2.2.2])]⟩)
def yu9 : Lp := lpC 2 (unG ylM yac) @ypO lpN
theorem yua : LF yu8 yu9 76 2 Tryz.f76 0 yac @ypO fun t => t := fun R κ again t => by kernel_rfl
theorem yub : LK yu8 yu9 76 Tryz.f76 0 := lkN (u := (unG ylM yac)) (yu fun t => by kernel_rfl) yua
theorem yB3 : EV yu8 yu9 76 Tryz.f76 yyM qz9 [.bool] yH := fun x => by kernel_rfl
def q76 : QF := ⟨76, yH, okN (n := 1) Tryz.func76 ⟨yub, trivial⟩ yB3⟩
abbrev vG : Type := yi4 ⊕ yjt
def Z3 (k0 : Unit → Option R) (k1 : List yb → Option R) (again : vG → Option R) : vG → Option R
 | .inl t3 => bif (decide (t3.1 < (List.length t3.2 : Int))) then if (0 : Int) ≤ t3.1 then if t3.1 < (List.length t3.2 : Int) then if (List.length ([] : List y7) + List.length (ym t3.2 t3.1)) * 40 < 140737488355328 then if List.length ([(([] : List y7) ++ (ym t3.2 t3.1))] : List yb) * 24 < 140737488355328 then again (Sum.inr ((Go.IntKind.wrap .i64 (t3.1 + (1 : Int))), t3.2, ([(([] : List y7) ++ (ym t3.2 t3.1))] : List yb))) else none else none else none else none else k0 ()
 | .inr t3 => bif (decide (t3.1 < (List.length t3.2.1 : Int))) then if (0 : Int) ≤ t3.1 then if t3.1 < (List.length t3.2.1 : Int) then if (List.length ([] : List y7) + List.length (ym t3.2.1 t3.1)) * 40 < 140737488355328 then if (List.length t3.2.2 + List.length ([(([] : List y7) ++ (ym t3.2.1 t3.1))] : List yb)) * 24 < 140737488355328 then again (Sum.inr ((Go.IntKind.wrap .i64 (t3.1 + (1 : Int))), t3.2.1, (t3.2.2 ++ ([(([] : List y7) ++ (ym t3.2.1 t3.1))] : List yb)))) else none else none else none else none else k1 t3.2.2
def QB k0 k1 := zV (@Z3 R k0 k1) Yg
def zg (x : List yb) : Option (List yb) :=
 QB (fun x1 => some ([] : List yb)) (fun x2 => some x2) (Sum.inl ((0 : Int), x))
def yeG : List QF := []
def y3j (t : yi4) : St := ⟨.dead :: .box 1 0 :: .box 2 0 :: .box 3 0 :: vI t.1 :: dd 21 [], [(1, .box [YA t.2]), (2, .box [.nils]), (3, .box [.nils])]⟩
theorem ygv : ∀ s t, unG ys1 y3j s = some t → y3j t = s := yu fun t => by kernel_rfl
def y3k (t : yjt) : St := ⟨.dead :: .box 1 0 :: .box 2 0 :: .box 3 0 :: vI t.1 :: dd 21 [], [(1, .box [YA t.2.1]), (2, .box [.nils]), (3, .box [.own 10000000]), (10000000, .root true 53 yr t.2.2)]⟩
theorem ygw : ∀ s t, unG ys7 y3k s = some t → y3k t = s := yu fun t => by kernel_rfl
def y3l : (yi4 ⊕ yjt) → St := Sum.elim y3j y3k
def y6P (s : St) : Option (yi4 ⊕ yjt) := ((unG ys1 y3j s).map Sum.inl).or (((unG ys7 y3k) s).map Sum.inr)
theorem ygx : ∀ s t, y6P s = some t → y3l t = s := y8C ygv ygw
def ybO : Gk vG := fun κ => Z3 (fun t => κ (some 0) ⟨dd 2 (.box 2 0 :: .box 3 0 :: dd 22 []), [(2, .box [.nils]), (3, .box [.nils])]⟩) (fun t => κ (some 0) ⟨dd 2 (.box 2 0 :: .box 3 0 :: dd 22 []), [(2, .box [.nils]), (3, .box [.own 10000000]), (10000000, .root true 53 yr t)]⟩)
def yeH : Lp := lpC 3 y6P @ybO lpN
theorem ygy : LF yeG yeH 142 3 Tryz.f142 0 y3l @ybO fun v : yi4 => .inl v := fun R κ again v => by kernel_rfl
theorem ygz : LF yeG yeH 142 3 Tryz.f142 0 y3l @ybO fun v : yjt => .inr v := fun R κ again v => by kernel_rfl
theorem ypP : LF yeG yeH 142 3 Tryz.f142 0 y3l @ybO fun t => t := (LC.sum ygy ygz)
theorem ypQ : LK yeG yeH 142 Tryz.f142 0 := lkN (u := y6P) ygx ypP
theorem yuc : EV yeG yeH 142 Tryz.f142 yo8 [(.sl 53 yr)] [(.sl 53 yr)] zg := fun x => by kernel_rfl
def yA2 : QF := ⟨142, zg, okN (n := 1) Tryz.func142 ⟨ypQ, trivial⟩ yuc⟩
abbrev vH : Type := ymc ⊕ yju
def Z4 (k0 : List yd → Option R) (k1 : Qz8 → Option R) (again : vH → Option R) : vH → Option R
 | .inl t3 => bif (decide (t3.1 < (List.length t3.2.2.1 : Int))) then if (0 : Int) ≤ t3.1 then if t3.1 < (List.length t3.2.2.1 : Int) then Option.bind (zg (ye t3.2.2.1 t3.1)) fun r1 => if List.length ([r1] : List y0) * 24 < 140737488355328 then again (Sum.inr ((Go.IntKind.wrap .i64 (t3.1 + (1 : Int))), t3.2.1, t3.2.2.1, t3.2.2.2, ([r1] : List y0))) else none else none else none else k0 t3.2.2.2
 | .inr t3 => bif (decide (t3.1 < (List.length t3.2.2.1 : Int))) then if (0 : Int) ≤ t3.1 then if t3.1 < (List.length t3.2.2.1 : Int) then Option.bind (zg (ye t3.2.2.1 t3.1)) fun r2 => if (List.length t3.2.2.2.2 + List.length ([r2] : List y0)) * 24 < 140737488355328 then again (Sum.inr ((Go.IntKind.wrap .i64 (t3.1 + (1 : Int))), t3.2.1, t3.2.2.1, t3.2.2.2.1, (t3.2.2.2.2 ++ ([r2] : List y0)))) else none else none else none else k1 t3.2.2.2
def QC k0 k1 := zV (@Z4 R k0 k1) Yg
def Zm (x : Qz8) : Option Qz8 :=
 if (List.length ([] : List yd) + List.length x.1) * 8 < 140737488355328 then QC (fun x3 => some (x3, ([] : List y0))) (fun x4 => some x4) (Sum.inl ((0 : Int), x.1, x.2, (([] : List yd) ++ x.1))) else none
def yeI : List QF := [yA2]
def y3m (t : ymc) : St := ⟨.dead :: .box 1 0 :: .box 2 0 :: .box 3 0 :: vI t.1 :: dd 24 [], [(1, .box [zj t.2.1, yJ t.2.2.1]), (2, .box [.nils, .nils]), (3, .box [.own 10000000, .nils]), (10000000, .root true 3 yf t.2.2.2)]⟩
theorem ygA : ∀ s t, unG yxQ y3m s = some t → y3m t = s := yu fun t => by kernel_rfl
def y3n (t : yju) : St := ⟨.dead :: .box 1 0 :: .box 2 0 :: .box 3 0 :: vI t.1 :: dd 24 [], [(1, .box [zj t.2.1, yJ t.2.2.1]), (2, .box [.nils, .nils]), (3, .box [.own 10000000, .own 10000001]), (10000000, .root true 3 yf t.2.2.2.1), (10000001, .root true 84 yk t.2.2.2.2)]⟩
theorem ygB : ∀ s t, unG ys8 y3n s = some t → y3n t = s := yu fun t => by kernel_rfl
def y3o : (ymc ⊕ yju) → St := Sum.elim y3m y3n
def y6Q (s : St) : Option (ymc ⊕ yju) := ((unG yxQ y3m s).map Sum.inl).or (((unG ys8 y3n) s).map Sum.inr)
theorem ygC : ∀ s t, y6Q s = some t → y3o t = s := y8C ygA ygB
def ybP : Gk vH := fun κ => Z4 (fun t => κ (some 0) ⟨dd 2 (.box 2 0 :: .box 3 0 :: dd 25 []), [(2, .box [.nils, .nils]), (3, .box [.own 10000000, .nils]), (10000000, .root true 3 yf t)]⟩) (fun t => κ (some 0) ⟨dd 2 (.box 2 0 :: .box 3 0 :: dd 25 []), [(2, .box [.nils, .nils]), (3, .box [.own 10000000, .own 10000001]), (10000000, .root true 3 yf t.1), (10000001, .root true 84 yk t.2)]⟩)
def yeJ : Lp := lpC 3 y6Q @ybP lpN
theorem ygD : LF yeI yeJ 115 3 Tryz.f115 0 y3o @ybP fun v : ymc => .inl v := fun R κ again v => by kernel_rfl
theorem ygE : LF yeI yeJ 115 3 Tryz.f115 0 y3o @ybP fun v : yju => .inr v := fun R κ again v => by kernel_rfl
theorem ypR : LF yeI yeJ 115 3 Tryz.f115 0 y3o @ybP fun t => t := (LC.sum ygD ygE)
theorem ypS : LK yeI yeJ 115 Tryz.f115 0 := lkN (u := y6Q) ygC ypR
theorem yud : EV yeI yeJ 115 Tryz.f115 yo9 qz8 qz8 Zm := fun x => by kernel_rfl
def yue : QF := ⟨115, Zm, okN (n := 1) Tryz.func115 ⟨ypS, trivial⟩ yud⟩
def Y6 (x : List y8) : Option (List y8) :=
 if (List.length ([] : List y8) + List.length x) * 24 < 140737488355328 then some (([] : List y8) ++ x) else none
theorem yuf : EV [] lpN 116 Tryz.f116 yoa [(.sl 79 yg)] [(.sl 79 yg)] Y6 := fun x => by kernel_rfl
def yug : QF := ⟨116, Y6, okN (n := 0) Tryz.func116 trivial yuf⟩
def yj (x : Qz9) : Option Qz9 :=
 Option.bind (Zm (x.1, x.2.1)) fun r1 => if (List.length ([] : List y9) + List.length x.2.2.1) * 16 < 140737488355328 then Option.bind (Y6 x.2.2.2.1) fun r2 => if (List.length ([] : List yc) + List.length x.2.2.2.2.1) * 40 < 140737488355328 then some (r1.1, r1.2, (([] : List y9) ++ x.2.2.1), r2, (([] : List yc) ++ x.2.2.2.2.1), x.2.2.2.2.2) else none else none
theorem yB4 : EV [yue, yug] lpN 77 Tryz.f77 yyN qz9 qz9 yj := fun x => by kernel_rfl
def q77 : QF := ⟨77, yj, okN (n := 0) Tryz.func77 trivial yB4⟩
def ZK (x : ymd) : Option Int :=
 Option.bind (yH (x.1, x.2.1, x.2.2.1, x.2.2.2.1, x.2.2.2.2.1, x.2.2.2.2.2.1)) fun r1 => Option.bind (bif (!r1) then some true else Option.bind (Yu x.2.2.2.2.2.2) fun r3 => some (!r3)) fun u2 => bif u2 then some (1 : Int) else some (0 : Int)
theorem yuh : EV [q76, ysh] lpN 117 Tryz.f117 yob yme [(.int .i64)] ZK := fun x => by kernel_rfl
def yui : QF := ⟨117, ZK, okN (n := 0) Tryz.func117 trivial yuh⟩
abbrev VD : Type := yxR
def wy (k0 : Int → Option R) (k1 : Unit → Option R) (again : VD → Option R) (t2 : VD) : Option R :=
 bif (decide (t2.2.1 < (List.length t2.2.2.2.2.2.2.1 : Int))) then if (0 : Int) ≤ t2.2.1 then if t2.2.1 < (List.length t2.2.2.2.2.2.2.1 : Int) then bif ((ByteArray.toList ((ya t2.2.2.2.2.2.2.1 t2.2.1).1)) == (ByteArray.toList t2.1)) then k0 t2.2.1 else again (t2.1, (Go.IntKind.wrap .i64 (t2.2.1 + (1 : Int))), t2.2.2.1, t2.2.2.2.1, t2.2.2.2.2.1, t2.2.2.2.2.2.1, t2.2.2.2.2.2.2.1, t2.2.2.2.2.2.2.2) else none else none else k1 ()
def y0J k0 k1 := zV (@wy R k0 k1) Yg
def zk (x : ymd) : Option Int :=
 y0J (fun x1 => some x1) (fun x2 => some (-1 : Int)) (x.2.2.2.2.2.2, (0 : Int), x.1, x.2.1, x.2.2.1, x.2.2.2.1, x.2.2.2.2.1, x.2.2.2.2.2.1)
def ykc : List QF := []
def y6R (t : yxR) : St := ⟨.dead :: vS t.1 :: .box 2 0 :: dd 2 (vI t.2.1 :: dd 16 []), [(2, .box [zj t.2.2.1, yJ t.2.2.2.1, zz t.2.2.2.2.1, z7 t.2.2.2.2.2.1, Yh t.2.2.2.2.2.2.1, vI t.2.2.2.2.2.2.2])]⟩
def yis : Gk VD := fun κ => wy (fun t => κ none ⟨dd 4 (vI t :: dd 17 []), []⟩) (fun t => κ (some 0) ⟨dd 22 [], []⟩)
def ykd : Lp := lpC 2 (unG yxS y6R) @yis lpN
theorem ypT : LF ykc ykd 118 2 Tryz.f118 0 y6R @yis fun t => t := fun R κ again t => by kernel_rfl
theorem ypU : LK ykc ykd 118 Tryz.f118 0 := lkN (u := (unG yxS y6R)) (yu fun t => by kernel_rfl) ypT
theorem yuj : EV ykc ykd 118 Tryz.f118 yoc yme [(.int .i64)] zk := fun x => by kernel_rfl
def yit : QF := ⟨118, zk, okN (n := 1) Tryz.func118 ⟨ypU, trivial⟩ yuj⟩
abbrev Wy : Type := yxT
def Wz (k0 : yAr → Option R) (again : Wy → Option R) (t4 : Wy) : Option R :=
 bif (decide (t4.2.2.2.2.1 < (List.length t4.1 : Int))) then Option.bind (bif (!t4.2.2.2.1) then if (0 : Int) ≤ t4.2.2.2.2.1 then if t4.2.2.2.2.1 < (List.length t4.1 : Int) then some (decide ((yM t4.1 t4.2.2.2.2.1).1 > t4.2.1)) else none else none else some false) fun u2 => bif u2 then if (List.length t4.2.2.2.2.2 + List.length ([(t4.2.1, t4.2.2.1)] : List y9)) * 16 < 140737488355328 then if (0 : Int) ≤ t4.2.2.2.2.1 then if t4.2.2.2.2.1 < (List.length t4.1 : Int) then if (List.length (t4.2.2.2.2.2 ++ ([(t4.2.1, t4.2.2.1)] : List y9)) + List.length ([((yM t4.1 t4.2.2.2.2.1).1, (yM t4.1 t4.2.2.2.2.1).2)] : List y9)) * 16 < 140737488355328 then again (t4.1, t4.2.1, t4.2.2.1, true, (Go.IntKind.wrap .i64 (t4.2.2.2.2.1 + (1 : Int))), ((t4.2.2.2.2.2 ++ ([(t4.2.1, t4.2.2.1)] : List y9)) ++ ([((yM t4.1 t4.2.2.2.2.1).1, (yM t4.1 t4.2.2.2.2.1).2)] : List y9))) else none else none else none else none else if (0 : Int) ≤ t4.2.2.2.2.1 then if t4.2.2.2.2.1 < (List.length t4.1 : Int) then if (List.length t4.2.2.2.2.2 + List.length ([((yM t4.1 t4.2.2.2.2.1).1, (yM t4.1 t4.2.2.2.2.1).2)] : List y9)) * 16 < 140737488355328 then again (t4.1, t4.2.1, t4.2.2.1, t4.2.2.2.1, (Go.IntKind.wrap .i64 (t4.2.2.2.2.1 + (1 : Int))), (t4.2.2.2.2.2 ++ ([((yM t4.1 t4.2.2.2.2.1).1, (yM t4.1 t4.2.2.2.2.1).2)] : List y9))) else none else none else none else k0 (t4.1, t4.2.1, t4.2.2.1, t4.2.2.2.1, t4.2.2.2.2.2)
def QD k0 := zV (@Wz R k0) Yg
def ju (x : ys4) : Option ymb :=
 Option.bind (zP (x.1, x.2.1)) fun r1 => QD (fun x3 => bif (!x3.2.2.2.1) then if (List.length x3.2.2.2.2 + List.length ([(x3.2.1, x3.2.2.1)] : List y9)) * 16 < 140737488355328 then Option.bind (zP (x3.1, x3.2.1)) fun r4 => Option.bind (bif (decide (r4 ≥ (0 : Int))) then some true else Option.bind (Zk (x3.2.2.2.2 ++ ([(x3.2.1, x3.2.2.1)] : List y9))) fun r6 => some (!r6)) fun u5 => bif u5 then if (List.length ([] : List y9) + List.length x3.1) * 16 < 140737488355328 then some ((([] : List y9) ++ x3.1), false) else none else some ((x3.2.2.2.2 ++ ([(x3.2.1, x3.2.2.1)] : List y9)), true) else none else Option.bind (zP (x3.1, x3.2.1)) fun r7 => Option.bind (bif (decide (r7 ≥ (0 : Int))) then some true else Option.bind (Zk x3.2.2.2.2) fun r9 => some (!r9)) fun u8 => bif u8 then if (List.length ([] : List y9) + List.length x3.1) * 16 < 140737488355328 then some ((([] : List y9) ++ x3.1), false) else none else some (x3.2.2.2.2, true)) (x.1, x.2.1, x.2.2, (decide (r1 ≥ (0 : Int))), (0 : Int), ([] : List y9))
def yke : List QF := [ytZ, ylQ]
def y6S (t : yxT) : St := ⟨zz t.1 :: vI t.2.1 :: vI t.2.2.1 :: dd 5 (.own 10000000 :: vB t.2.2.2.1 :: vI t.2.2.2.2.1 :: dd 56 []), [(10000000, .root true 91 yl t.2.2.2.2.2)]⟩
def yiu : Gk Wy := fun κ => Wz (fun t => κ (some 0) ⟨zz t.1 :: vI t.2.1 :: vI t.2.2.1 :: dd 5 (.own 10000000 :: vB t.2.2.2.1 :: dd 57 []), [(10000000, .root true 91 yl t.2.2.2.2)]⟩)
def ykf : Lp := lpC 4 (unG yxU y6S) @yiu lpN
theorem ypV : LF yke ykf 119 4 Tryz.f119 0 y6S @yiu fun t => t := fun R κ again t => by kernel_rfl
theorem ypW : LK yke ykf 119 Tryz.f119 0 := lkN (u := (unG yxU y6S)) (yu fun t => by kernel_rfl) ypV
theorem yuk : EV yke ykf 119 Tryz.f119 yod ys5 ysI ju := fun x => by kernel_rfl
def yA3 : QF := ⟨119, ju, okN (n := 1) Tryz.func119 ⟨ypW, trivial⟩ yuk⟩
abbrev Zn : Type := ysL
def YG (k0 : ysL → Option R) (again : Zn → Option R) (t3 : Zn) : Option R :=
 Option.bind (bif (decide (t3.1 > (0 : Int))) then if (0 : Int) ≤ (Go.IntKind.wrap .i64 (t3.1 - (1 : Int))) then if (Go.IntKind.wrap .i64 (t3.1 - (1 : Int))) < (List.length t3.2.2.2.2.2 : Int) then some (!(Go.Op.bytesLess (ByteArray.toList ((ya t3.2.2.2.2.2 (Go.IntKind.wrap .i64 (t3.1 - (1 : Int)))).1)) (ByteArray.toList t3.2.1) || (ByteArray.toList ((ya t3.2.2.2.2.2 (Go.IntKind.wrap .i64 (t3.1 - (1 : Int)))).1)) == (ByteArray.toList t3.2.1))) else none else none else some false) fun u1 => bif u1 then if (0 : Int) ≤ (Go.IntKind.wrap .i64 (t3.1 - (1 : Int))) then if (Go.IntKind.wrap .i64 (t3.1 - (1 : Int))) < (List.length t3.2.2.2.2.2 : Int) then if (0 : Int) ≤ t3.1 then if t3.1 < (List.length t3.2.2.2.2.2 : Int) then again ((Go.IntKind.wrap .i64 (t3.1 - (1 : Int))), t3.2.1, t3.2.2.1, t3.2.2.2.1, t3.2.2.2.2.1, (List.set t3.2.2.2.2.2 (Int.toNat t3.1) ((ya t3.2.2.2.2.2 (Go.IntKind.wrap .i64 (t3.1 - (1 : Int)))).1, (ya t3.2.2.2.2.2 (Go.IntKind.wrap .i64 (t3.1 - (1 : Int)))).2.1, (ya t3.2.2.2.2.2 (Go.IntKind.wrap .i64 (t3.1 - (1 : Int)))).2.2.1, (ya t3.2.2.2.2.2 (Go.IntKind.wrap .i64 (t3.1 - (1 : Int)))).2.2.2))) else none else none else none else none else k0 t3
def WA k0 := zV (@YG R k0) Yg
def Yd (x : ys9) : Option (List yc) :=
 if (List.length ([] : List yc) + List.length x.1) * 40 < 140737488355328 then if (List.length (([] : List yc) ++ x.1) + List.length ([x.2] : List yc)) * 40 < 140737488355328 then WA (fun x2 => if (0 : Int) ≤ x2.1 then if x2.1 < (List.length x2.2.2.2.2.2 : Int) then some (List.set x2.2.2.2.2.2 (Int.toNat x2.1) (x2.2.1, x2.2.2.1, x2.2.2.2.1, x2.2.2.2.2.1)) else none else none) ((Go.IntKind.wrap .i64 (((List.length ((([] : List yc) ++ x.1) ++ ([x.2] : List yc)) : Nat) : Int) - (1 : Int))), x.2.1, x.2.2.1, x.2.2.2.1, x.2.2.2.2, ((([] : List yc) ++ x.1) ++ ([x.2] : List yc))) else none else none
def ykg : List QF := []
def y6T (t : ysL) : St := ⟨dd 3 (.box 3 0 :: .dead :: .own 10000000 :: vI t.1 :: dd 37 []), [(3, .box [vS t.2.1, vI t.2.2.1, vI t.2.2.2.1, vB t.2.2.2.2.1]), (10000000, .root true 40 yK t.2.2.2.2.2)]⟩
def yiv : Gk Zn := fun κ => YG (fun t => κ (some 0) ⟨dd 3 (.box 3 0 :: .dead :: .own 10000000 :: vI t.1 :: dd 37 []), [(3, .box [vS t.2.1, vI t.2.2.1, vI t.2.2.2.1, vB t.2.2.2.2.1]), (10000000, .root true 40 yK t.2.2.2.2.2)]⟩)
def ykh : Lp := lpC 3 (unG yxV y6T) @yiv lpN
theorem ypX : LF ykg ykh 120 3 Tryz.f120 0 y6T @yiv fun t => t := fun R κ again t => by kernel_rfl
theorem ypY : LK ykg ykh 120 Tryz.f120 0 := lkN (u := (unG yxV y6T)) (yu fun t => by kernel_rfl) ypX
theorem yul : EV ykg ykh 120 Tryz.f120 yoe ysa [(.sl 40 yK)] Yd := fun x => by kernel_rfl
def yA4 : QF := ⟨120, Yd, okN (n := 1) Tryz.func120 ⟨ypY, trivial⟩ yul⟩
def yC (x : yxW) : Option y8H :=
 Option.bind (bif (!x.2.2.2.2.2.2.2.2.2.2.2.2) then some true else Option.bind (yH (x.2.2.2.2.2.2.1, x.2.2.2.2.2.2.2.1, x.2.2.2.2.2.2.2.2.1, x.2.2.2.2.2.2.2.2.2.1, x.2.2.2.2.2.2.2.2.2.2.1, x.2.2.2.2.2.2.2.2.2.2.2.1)) fun r2 => some (!r2)) fun u1 => bif u1 then Option.bind (yj (x.1, x.2.1, x.2.2.1, x.2.2.2.1, x.2.2.2.2.1, x.2.2.2.2.2.1)) fun r3 => some (r3.1, r3.2.1, r3.2.2.1, r3.2.2.2.1, r3.2.2.2.2.1, r3.2.2.2.2.2, (6 : Int)) else some (x.2.2.2.2.2.2.1, x.2.2.2.2.2.2.2.1, x.2.2.2.2.2.2.2.2.1, x.2.2.2.2.2.2.2.2.2.1, x.2.2.2.2.2.2.2.2.2.2.1, x.2.2.2.2.2.2.2.2.2.2.2.1, (0 : Int))
theorem yum : EV [q76, q77] lpN 121 Tryz.f121 yof yxX y8I yC := fun x => by kernel_rfl
def ylR : QF := ⟨121, yC, okN (n := 0) Tryz.func121 trivial yum⟩
def YV (x : ymf) : Option y8H :=
 Option.bind (ZK (x.1, x.2.1, x.2.2.1, x.2.2.2.1, x.2.2.2.2.1, x.2.2.2.2.2.1, x.2.2.2.2.2.2.1)) fun r1 => bif (r1 != (0 : Int)) then Option.bind (yj (x.1, x.2.1, x.2.2.1, x.2.2.2.1, x.2.2.2.2.1, x.2.2.2.2.2.1)) fun r2 => some (r2.1, r2.2.1, r2.2.2.1, r2.2.2.2.1, r2.2.2.2.2.1, r2.2.2.2.2.2, r1) else Option.bind (zk (x.1, x.2.1, x.2.2.1, x.2.2.2.1, x.2.2.2.2.1, x.2.2.2.2.2.1, x.2.2.2.2.2.2.1)) fun r3 => bif (decide (r3 ≥ (0 : Int))) then Option.bind (yj (x.1, x.2.1, x.2.2.1, x.2.2.2.1, x.2.2.2.2.1, x.2.2.2.2.2.1)) fun r4 => some (r4.1, r4.2.1, r4.2.2.1, r4.2.2.2.1, r4.2.2.2.2.1, r4.2.2.2.2.2, (3 : Int)) else Option.bind (yz (x.2.2.2.2.2.2.2, (1 : Int), (12 : Int))) fun r5 => bif (!r5) then Option.bind (yj (x.1, x.2.1, x.2.2.1, x.2.2.2.1, x.2.2.2.2.1, x.2.2.2.2.2.1)) fun r6 => some (r6.1, r6.2.1, r6.2.2.1, r6.2.2.2.1, r6.2.2.2.2.1, r6.2.2.2.2.2, (4 : Int)) else Option.bind (yj (x.1, x.2.1, x.2.2.1, x.2.2.2.1, x.2.2.2.2.1, x.2.2.2.2.2.1)) fun r7 => Option.bind (ju (x.2.2.1, x.2.2.2.2.2.1, (0 : Int))) fun r8 => Option.bind (Yd (x.2.2.2.2.1, x.2.2.2.2.2.2.1, x.2.2.2.2.2.1, x.2.2.2.2.2.2.2, false)) fun r9 => Option.bind (yC (x.1, x.2.1, x.2.2.1, x.2.2.2.1, x.2.2.2.2.1, x.2.2.2.2.2.1, r7.1, r7.2.1, r8.1, r7.2.2.2.1, r9, (Go.IntKind.wrap .i64 (x.2.2.2.2.2.1 + (1 : Int))), r8.2)) fun r10 => some r10
theorem yB5 : EV [q77, y6t, yui, yit, yA3, yA4, ylR] lpN 78 Tryz.f78 yyO ymg y8I YV := fun x => by kernel_rfl
def q78 : QF := ⟨78, YV, okN (n := 0) Tryz.func78 trivial yB5⟩
def jv (x : yxY) : Option y8H :=
 Option.bind (ZK (x.1, x.2.1, x.2.2.1, x.2.2.2.1, x.2.2.2.2.1, x.2.2.2.2.2.1, x.2.2.2.2.2.2.1)) fun r1 => Option.bind (bif (r1 != (0 : Int)) then some true else Option.bind (Yu x.2.2.2.2.2.2.2.1) fun r3 => some (!r3)) fun u2 => bif u2 then Option.bind (yj (x.1, x.2.1, x.2.2.1, x.2.2.2.1, x.2.2.2.2.1, x.2.2.2.2.2.1)) fun r4 => some (r4.1, r4.2.1, r4.2.2.1, r4.2.2.2.1, r4.2.2.2.2.1, r4.2.2.2.2.2, (1 : Int)) else Option.bind (zk (x.1, x.2.1, x.2.2.1, x.2.2.2.1, x.2.2.2.2.1, x.2.2.2.2.2.1, x.2.2.2.2.2.2.1)) fun r5 => bif (decide (r5 < (0 : Int))) then Option.bind (yj (x.1, x.2.1, x.2.2.1, x.2.2.2.1, x.2.2.2.2.1, x.2.2.2.2.2.1)) fun r6 => some (r6.1, r6.2.1, r6.2.2.1, r6.2.2.2.1, r6.2.2.2.2.1, r6.2.2.2.2.2, (2 : Int)) else Option.bind (zk (x.1, x.2.1, x.2.2.1, x.2.2.2.1, x.2.2.2.2.1, x.2.2.2.2.2.1, x.2.2.2.2.2.2.2.1)) fun r7 => bif (decide (r7 ≥ (0 : Int))) then Option.bind (yj (x.1, x.2.1, x.2.2.1, x.2.2.2.1, x.2.2.2.2.1, x.2.2.2.2.2.1)) fun r8 => some (r8.1, r8.2.1, r8.2.2.1, r8.2.2.2.1, r8.2.2.2.2.1, r8.2.2.2.2.2, (3 : Int)) else Option.bind (yj (x.1, x.2.1, x.2.2.1, x.2.2.2.1, x.2.2.2.2.1, x.2.2.2.2.2.1)) fun r9 => Option.bind (zk (x.1, x.2.1, x.2.2.1, x.2.2.2.1, x.2.2.2.2.1, x.2.2.2.2.2.1, x.2.2.2.2.2.2.1)) fun r10 => if (0 : Int) ≤ r10 then if r10 < (List.length x.2.2.2.2.1 : Int) then Option.bind (ju (x.2.2.1, x.2.2.2.2.2.1, (ya x.2.2.2.2.1 r10).2.1)) fun r11 => if (0 : Int) ≤ r10 then if r10 < (List.length x.2.2.2.2.1 : Int) then Option.bind (ju (r11.1, (Go.IntKind.wrap .i64 (x.2.2.2.2.2.1 + (1 : Int))), (ya x.2.2.2.2.1 r10).2.1)) fun r12 => if (0 : Int) ≤ r10 then if r10 < (List.length r9.2.2.2.2.1 : Int) then if (0 : Int) ≤ r10 then if r10 < (List.length x.2.2.2.2.1 : Int) then Option.bind (Yd ((List.set r9.2.2.2.2.1 (Int.toNat r10) ((ya r9.2.2.2.2.1 r10).1, x.2.2.2.2.2.1, (ya r9.2.2.2.2.1 r10).2.2)), x.2.2.2.2.2.2.2.1, (Go.IntKind.wrap .i64 (x.2.2.2.2.2.1 + (1 : Int))), (ya x.2.2.2.2.1 r10).2.2.1, x.2.2.2.2.2.2.2.2)) fun r13 => Option.bind (bif r11.2 then some r12.2 else some false) fun u14 => Option.bind (yC (x.1, x.2.1, x.2.2.1, x.2.2.2.1, x.2.2.2.2.1, x.2.2.2.2.2.1, r9.1, r9.2.1, r12.1, r9.2.2.2.1, r13, (Go.IntKind.wrap .i64 (x.2.2.2.2.2.1 + (2 : Int))), u14)) fun r15 => some r15 else none else none else none else none else none else none else none else none
theorem yB6 : EV [q77, ysh, yui, yit, yA3, yA4, ylR] lpN 79 Tryz.f79 yyP yxZ y8I jv := fun x => by kernel_rfl
def q79 : QF := ⟨79, jv, okN (n := 0) Tryz.func79 trivial yB6⟩
def JZ (x : ymd) : Option Int :=
 Option.bind (ZK x) fun r1 => Option.bind (bif (r1 == (0 : Int)) then Option.bind (zk x) fun r3 => some (decide (r3 < (0 : Int))) else some false) fun u2 => bif u2 then some (2 : Int) else some r1
theorem yun : EV [yui, yit] lpN 122 Tryz.f122 yog yme [(.int .i64)] JZ := fun x => by kernel_rfl
def yA5 : QF := ⟨122, JZ, okN (n := 0) Tryz.func122 trivial yun⟩
def jw (x : ymd) : Option y8H :=
 Option.bind (yj (x.1, x.2.1, x.2.2.1, x.2.2.2.1, x.2.2.2.2.1, x.2.2.2.2.2.1)) fun r1 => Option.bind (JZ x) fun r2 => bif (r2 != (0 : Int)) then some (r1.1, r1.2.1, r1.2.2.1, r1.2.2.2.1, r1.2.2.2.2.1, r1.2.2.2.2.2, r2) else Option.bind (zk x) fun r3 => if (0 : Int) ≤ (0 : Int) then if (0 : Int) ≤ r3 then if r3 ≤ (List.length x.2.2.2.2.1 : Int) then if (List.length ([] : List yc) + List.length (List.drop (Int.toNat (0 : Int)) (List.take (Int.toNat r3) x.2.2.2.2.1))) * 40 < 140737488355328 then if (0 : Int) ≤ (Go.IntKind.wrap .i64 (r3 + (1 : Int))) then if (Go.IntKind.wrap .i64 (r3 + (1 : Int))) ≤ (List.length x.2.2.2.2.1 : Int) then if (List.length x.2.2.2.2.1 : Int) ≤ (List.length x.2.2.2.2.1 : Int) then if (List.length (([] : List yc) ++ (List.drop (Int.toNat (0 : Int)) (List.take (Int.toNat r3) x.2.2.2.2.1))) + List.length (List.drop (Int.toNat (Go.IntKind.wrap .i64 (r3 + (1 : Int)))) (List.take (Int.toNat (List.length x.2.2.2.2.1 : Int)) x.2.2.2.2.1))) * 40 < 140737488355328 then Option.bind (yC (x.1, x.2.1, x.2.2.1, x.2.2.2.1, x.2.2.2.2.1, x.2.2.2.2.2.1, r1.1, r1.2.1, r1.2.2.1, r1.2.2.2.1, ((([] : List yc) ++ (List.drop (Int.toNat (0 : Int)) (List.take (Int.toNat r3) x.2.2.2.2.1))) ++ (List.drop (Int.toNat (Go.IntKind.wrap .i64 (r3 + (1 : Int)))) (List.take (Int.toNat (List.length x.2.2.2.2.1 : Int)) x.2.2.2.2.1))), r1.2.2.2.2.2, true)) fun r4 => some r4 else none else none else none else none else none else none else none else none
theorem yB7 : EV [q77, yit, ylR, yA5] lpN 80 Tryz.f80 yyQ yme y8I jw := fun x => by kernel_rfl
def q80 : QF := ⟨80, jw, okN (n := 0) Tryz.func80 trivial yB7⟩
def Z5 (x : ymf) : Option Int :=
 Option.bind (JZ (x.1, x.2.1, x.2.2.1, x.2.2.2.1, x.2.2.2.2.1, x.2.2.2.2.2.1, x.2.2.2.2.2.2.1)) fun r1 => bif (r1 != (0 : Int)) then some r1 else Option.bind (zk (x.1, x.2.1, x.2.2.1, x.2.2.2.1, x.2.2.2.2.1, x.2.2.2.2.2.1, x.2.2.2.2.2.2.1)) fun r2 => if (0 : Int) ≤ r2 then if r2 < (List.length x.2.2.2.2.1 : Int) then bif (ya x.2.2.2.2.1 r2).2.2.2 then some (5 : Int) else Option.bind (zk (x.1, x.2.1, x.2.2.1, x.2.2.2.1, x.2.2.2.2.1, x.2.2.2.2.2.1, x.2.2.2.2.2.2.1)) fun r3 => if (0 : Int) ≤ r3 then if r3 < (List.length x.2.2.2.2.1 : Int) then Option.bind (yz (x.2.2.2.2.2.2.2, (0 : Int), (Go.IntKind.wrap .i64 ((ya x.2.2.2.2.1 r3).2.2.1 - (1 : Int))))) fun r4 => bif (!r4) then some (4 : Int) else some (0 : Int) else none else none else none else none
theorem yuo : EV [y6t, yit, yA5] lpN 123 Tryz.f123 yoh ymg [(.int .i64)] Z5 := fun x => by kernel_rfl
def yup : QF := ⟨123, Z5, okN (n := 0) Tryz.func123 trivial yuo⟩
abbrev w5 : Type := yy0
def zI (k0 : yAs → Option R) (k1 : List y8 → Option R) (again : w5 → Option R) (t3 : w5) : Option R :=
 Option.bind (bif (decide (t3.2.2.1 < (List.length t3.1 : Int))) then Option.bind (ZJ t3.1) fun r3 => some r3 else some false) fun u2 => Option.bind (bif u2 then Option.bind (zl t3.2.1) fun r5 => some r5 else some false) fun u4 => bif u4 then if (0 : Int) ≤ t3.2.2.1 then if t3.2.2.1 < (List.length t3.1 : Int) then bif (!((yo t3.1 t3.2.2.1).2.1)) then if (0 : Int) ≤ t3.2.2.1 then if t3.2.2.1 < (List.length t3.2.2.2 : Int) then if (0 : Int) ≤ t3.2.2.1 then if t3.2.2.1 < ((List.length (List.set t3.2.2.2 (Int.toNat t3.2.2.1) ((yo t3.2.2.2 t3.2.2.1).1, true, (yo t3.2.2.2 t3.2.2.1).2.2)) : Nat) : Int) then k0 (t3.2.2.1, true, (List.set (List.set t3.2.2.2 (Int.toNat t3.2.2.1) ((yo t3.2.2.2 t3.2.2.1).1, true, (yo t3.2.2.2 t3.2.2.1).2.2)) (Int.toNat t3.2.2.1) ((yo (List.set t3.2.2.2 (Int.toNat t3.2.2.1) ((yo t3.2.2.2 t3.2.2.1).1, true, (yo t3.2.2.2 t3.2.2.1).2.2)) t3.2.2.1).1, (yo (List.set t3.2.2.2 (Int.toNat t3.2.2.1) ((yo t3.2.2.2 t3.2.2.1).1, true, (yo t3.2.2.2 t3.2.2.1).2.2)) t3.2.2.1).2.1, t3.2.1))) else none else none else none else none else again (t3.1, t3.2.1, (Go.IntKind.wrap .i64 (t3.2.2.1 + (1 : Int))), t3.2.2.2) else none else none else k1 t3.2.2.2
def kO k0 k1 := zV (@zI R k0 k1) Yg
def Y7 (x : ylK) : Option yy2 :=
 Option.bind (Y6 x.1) fun r1 => kO (fun x6 => some (x6.2.2, x6.1, x6.2.1)) (fun x7 => some (x7, (0 : Int), false)) (x.1, x.2, (0 : Int), r1)
def yki : List QF := [ysi, yu1, yug]
def y6U (t : yy0) : St := ⟨z7 t.1 :: vI t.2.1 :: dd 5 (.own 10000000 :: vI t.2.2.1 :: dd 34 []), [(10000000, .root true 79 yg t.2.2.2)]⟩
def yiw : Gk w5 := fun κ => zI (fun t => κ none ⟨dd 4 (.own 10000000 :: vI t.1 :: vB t.2.1 :: .own 10000000 :: dd 35 []), [(10000000, .root true 79 yg t.2.2)]⟩) (fun t => κ (some 0) ⟨dd 7 (.own 10000000 :: dd 35 []), [(10000000, .root true 79 yg t)]⟩)
def ykj : Lp := lpC 3 (unG yy1 y6U) @yiw lpN
theorem ypZ : LF yki ykj 124 3 Tryz.f124 0 y6U @yiw fun t => t := fun R κ again t => by kernel_rfl
theorem yq0 : LK yki ykj 124 Tryz.f124 0 := lkN (u := (unG yy1 y6U)) (yu fun t => by kernel_rfl) ypZ
theorem yuq : EV yki ykj 124 Tryz.f124 yoi ylL yy3 Y7 := fun x => by kernel_rfl
def yA6 : QF := ⟨124, Y7, okN (n := 1) Tryz.func124 ⟨yq0, trivial⟩ yuq⟩
abbrev wN : Type := yy4
def wO (k0 : Int → Option R) (again : wN → Option R) (t3 : wN) : Option R :=
 bif (decide (t3.2.2.2.1 < (List.length t3.2.2.2.2.1 : Int))) then if (0 : Int) ≤ t3.2.2.2.1 then if t3.2.2.2.1 < (List.length t3.2.2.2.2.1 : Int) then Option.bind (JW (t3.1, t3.2.1)) fun r1 => bif (decide ((zw t3.2.2.2.2.1 t3.2.2.2.1) ≤ r1)) then again (t3.1, t3.2.1, t3.2.2.2.1, (Go.IntKind.wrap .i64 (t3.2.2.2.1 + (1 : Int))), t3.2.2.2.2.1, t3.2.2.2.2.2) else again (t3.1, t3.2.1, t3.2.2.1, (Go.IntKind.wrap .i64 (t3.2.2.2.1 + (1 : Int))), t3.2.2.2.2.1, t3.2.2.2.2.2) else none else none else k0 t3.2.2.1
def Q5 k0 := zV (@wO R k0) Yg
def J0 (x : ysb) : Option Int :=
 Q5 (fun x2 => some x2) (x.2.2.1, x.2.2.2, (-1 : Int), (0 : Int), x.1, x.2.1)
def ykk : List QF := [yzZ]
def y6V (t : yy4) : St := ⟨.dead :: vI t.1 :: vI t.2.1 :: .box 3 0 :: dd 3 (vI t.2.2.1 :: vI t.2.2.2.1 :: dd 18 []), [(3, .box [zj t.2.2.2.2.1, yJ t.2.2.2.2.2])]⟩
def yix : Gk wN := fun κ => wO (fun t => κ (some 0) ⟨dd 7 (vI t :: dd 19 []), []⟩)
def ykl : Lp := lpC 3 (unG yy5 y6V) @yix lpN
theorem yq1 : LF ykk ykl 159 3 Tryz.f159 0 y6V @yix fun t => t := fun R κ again t => by kernel_rfl
theorem yq2 : LK ykk ykl 159 Tryz.f159 0 := lkN (u := (unG yy5 y6V)) (yu fun t => by kernel_rfl) yq1
theorem yur : EV ykk ykl 159 Tryz.f159 yoj ysc [(.int .i64)] J0 := fun x => by kernel_rfl
def yA7 : QF := ⟨159, J0, okN (n := 1) Tryz.func159 ⟨yq2, trivial⟩ yur⟩
abbrev VE : Type := yy6
def wz (k0 : ysd → Option R) (k1 : yfz → Option R) (again : VE → Option R) (t2 : VE) : Option R :=
 bif (decide (t2.2.2.2.1 < (List.length t2.1 : Int))) then if (0 : Int) ≤ t2.2.2.2.1 then if t2.2.2.2.1 < (List.length t2.1 : Int) then Option.bind (bif ((y6 t2.1 t2.2.2.2.1).1 == t2.2.1) then if (0 : Int) ≤ t2.2.2.2.1 then if t2.2.2.2.1 < (List.length t2.1 : Int) then some ((y6 t2.1 t2.2.2.2.1).2.1 == t2.2.2.1) else none else none else some false) fun u1 => bif u1 then if (0 : Int) ≤ t2.2.2.2.1 then if t2.2.2.2.1 < (List.length t2.1 : Int) then k0 (true, (y6 t2.1 t2.2.2.2.1).1, (y6 t2.1 t2.2.2.2.1).2.1, (y6 t2.1 t2.2.2.2.1).2.2.1, (y6 t2.1 t2.2.2.2.1).2.2.2.1, (y6 t2.1 t2.2.2.2.1).2.2.2.2) else none else none else again (t2.1, t2.2.1, t2.2.2.1, (Go.IntKind.wrap .i64 (t2.2.2.2.1 + (1 : Int))), t2.2.2.2.2.1, t2.2.2.2.2.2.1, t2.2.2.2.2.2.2.1, t2.2.2.2.2.2.2.2.1, t2.2.2.2.2.2.2.2.2) else none else none else k1 t2.2.2.2.2
def y0K k0 k1 := zV (@wz R k0 k1) Yg
def W9 (x : yy8) : Option yem :=
 y0K (fun x2 => some (x2.2.1, x2.2.2.1, x2.2.2.2.1, x2.2.2.2.2.1, x2.2.2.2.2.2, x2.1)) (fun x3 => some ((0 : Int), (0 : Int), (0 : Int), (0 : Int), (0 : Int), false)) (x.1, x.2.1, x.2.2, (0 : Int), (0 : Int), (0 : Int), (0 : Int), (0 : Int), (0 : Int))
def ykm : List QF := []
def y6W (t : yy6) : St := ⟨qI t.1 :: vI t.2.1 :: vI t.2.2.1 :: dd 3 (.box 6 0 :: .dead :: vI t.2.2.2.1 :: dd 27 []), [(6, .box [vI t.2.2.2.2.1, vI t.2.2.2.2.2.1, vI t.2.2.2.2.2.2.1, vI t.2.2.2.2.2.2.2.1, vI t.2.2.2.2.2.2.2.2])]⟩
def yiy : Gk VE := fun κ => wz (fun t => κ none ⟨dd 6 (.box 6 0 :: vB t.1 :: dd 28 []), [(6, .box [vI t.2.1, vI t.2.2.1, vI t.2.2.2.1, vI t.2.2.2.2.1, vI t.2.2.2.2.2])]⟩) (fun t => κ (some 0) ⟨dd 6 (.box 6 0 :: dd 29 []), [(6, .box [vI t.1, vI t.2.1, vI t.2.2.1, vI t.2.2.2.1, vI t.2.2.2.2])]⟩)
def ykn : Lp := lpC 2 (unG yy7 y6W) @yiy lpN
theorem yq3 : LF ykm ykn 178 2 Tryz.f178 0 y6W @yiy fun t => t := fun R κ again t => by kernel_rfl
theorem yq4 : LK ykm ykn 178 Tryz.f178 0 := lkN (u := (unG yy7 y6W)) (yu fun t => by kernel_rfl) yq3
theorem yus : EV ykm ykn 178 Tryz.f178 yok yy9 yen W9 := fun x => by kernel_rfl
def yA8 : QF := ⟨178, W9, okN (n := 1) Tryz.func178 ⟨yq4, trivial⟩ yus⟩
abbrev WB : Type := yse
def WC (k0 : ysd → Option R) (k1 : yfz → Option R) (again : WB → Option R) (t2 : WB) : Option R :=
 bif (decide (t2.2.2.1 ≥ (0 : Int))) then if (0 : Int) ≤ t2.2.2.1 then if t2.2.2.1 < (List.length t2.2.2.2.1 : Int) then Option.bind (W9 ((ym t2.2.2.2.1 t2.2.2.1), t2.1, t2.2.1)) fun r1 => Option.bind (bif r1.2.2.2.2.2 then some (r1.2.2.1 == (0 : Int)) else some false) fun u2 => bif u2 then k0 (false, (0 : Int), (0 : Int), (0 : Int), (0 : Int), (0 : Int)) else bif r1.2.2.2.2.2 then k0 (true, r1.1, r1.2.1, r1.2.2.1, r1.2.2.2.1, r1.2.2.2.2.1) else again (t2.1, t2.2.1, (Go.IntKind.wrap .i64 (t2.2.2.1 - (1 : Int))), t2.2.2.2.1, t2.2.2.2.2.1, t2.2.2.2.2.2.1, t2.2.2.2.2.2.2.1, t2.2.2.2.2.2.2.2.1, t2.2.2.2.2.2.2.2.2) else none else none else k1 t2.2.2.2.2
def QE k0 k1 := zV (@WC R k0 k1) Yg
def WD (x : yjv) : Option yem :=
 QE (fun x3 => some (x3.2.1, x3.2.2.1, x3.2.2.2.1, x3.2.2.2.2.1, x3.2.2.2.2.2, x3.1)) (fun x4 => some ((0 : Int), (0 : Int), (0 : Int), (0 : Int), (0 : Int), false)) (x.2.1, x.2.2, (Go.IntKind.wrap .i64 ((List.length x.1 : Int) - (1 : Int))), x.1, (0 : Int), (0 : Int), (0 : Int), (0 : Int), (0 : Int))
def yko : List QF := [yA8]
def y6X (t : yse) : St := ⟨.dead :: vI t.1 :: vI t.2.1 :: .box 3 0 :: dd 2 (.box 6 0 :: .dead :: vI t.2.2.1 :: dd 31 []), [(3, .box [YA t.2.2.2.1]), (6, .box [vI t.2.2.2.2.1, vI t.2.2.2.2.2.1, vI t.2.2.2.2.2.2.1, vI t.2.2.2.2.2.2.2.1, vI t.2.2.2.2.2.2.2.2])]⟩
def yiz : Gk WB := fun κ => WC (fun t => κ none ⟨dd 6 (.box 6 0 :: vB t.1 :: dd 32 []), [(6, .box [vI t.2.1, vI t.2.2.1, vI t.2.2.2.1, vI t.2.2.2.2.1, vI t.2.2.2.2.2])]⟩) (fun t => κ (some 0) ⟨dd 6 (.box 6 0 :: dd 33 []), [(6, .box [vI t.1, vI t.2.1, vI t.2.2.1, vI t.2.2.2.1, vI t.2.2.2.2])]⟩)
def ykp : Lp := lpC 2 (unG ysf y6X) @yiz lpN
theorem yq5 : LF yko ykp 160 2 Tryz.f160 0 y6X @yiz fun t => t := fun R κ again t => by kernel_rfl
theorem yq6 : LK yko ykp 160 Tryz.f160 0 := lkN (u := (unG ysf y6X)) (yu fun t => by kernel_rfl) yq5
theorem yut : EV yko ykp 160 Tryz.f160 yol ysg yen WD := fun x => by kernel_rfl
def yB8 : QF := ⟨160, WD, okN (n := 1) Tryz.func160 ⟨yq6, trivial⟩ yut⟩
def jx (x : ysb) : Option yem :=
 Option.bind (J0 x) fun r1 => Option.bind (yz (r1, (0 : Int), (Go.IntKind.wrap .i64 ((List.length x.2.1 : Int) - (1 : Int))))) fun r2 => bif (!r2) then some ((0 : Int), (0 : Int), (0 : Int), (0 : Int), (0 : Int), false) else if (0 : Int) ≤ r1 then if r1 < (List.length x.2.1 : Int) then Option.bind (WD ((ye x.2.1 r1), x.2.2.1, x.2.2.2)) fun r3 => some r3 else none else none
theorem yuu : EV [y6t, yA7, yB8] lpN 143 Tryz.f143 yom ysc yen jx := fun x => by kernel_rfl
def yuv : QF := ⟨143, jx, okN (n := 0) Tryz.func143 trivial yuu⟩
def yV (x : List y7) : Option (List yb) :=
 bif ((List.length x : Int) == (0 : Int)) then some ([] : List yb) else if (List.length ([] : List y7) + List.length x) * 40 < 140737488355328 then some ([(([] : List y7) ++ x)] : List yb) else none
theorem yuw : EV [] lpN 166 Tryz.f166 yon [(.sl 81 yh)] [(.sl 53 yr)] yV := fun x => by kernel_rfl
def ysj : QF := ⟨166, yV, okN (n := 0) Tryz.func166 trivial yuw⟩
def wA (x : ysM) : Option yya :=
 Option.bind (zg x.1) fun r1 => bif (decide ((Go.IntKind.wrap .i64 ((List.length r1 : Int) - (1 : Int))) ≥ (0 : Int))) then if (0 : Int) ≤ (Go.IntKind.wrap .i64 ((List.length r1 : Int) - (1 : Int))) then if (Go.IntKind.wrap .i64 ((List.length r1 : Int) - (1 : Int))) < (List.length r1 : Int) then Option.bind (W9 ((ym r1 (Go.IntKind.wrap .i64 ((List.length r1 : Int) - (1 : Int)))), x.2.1, x.2.2.1)) fun r2 => Option.bind (bif (decide ((Go.IntKind.wrap .i64 ((List.length r1 : Int) - (1 : Int))) ≥ (0 : Int))) then if (0 : Int) ≤ (Go.IntKind.wrap .i64 ((List.length r1 : Int) - (1 : Int))) then if (Go.IntKind.wrap .i64 ((List.length r1 : Int) - (1 : Int))) < (List.length r1 : Int) then Option.bind (bif (decide (((List.length (ym r1 (Go.IntKind.wrap .i64 ((List.length r1 : Int) - (1 : Int)))) : Nat) : Int) < (4 : Int))) then some true else some r2.2.2.2.2.2) fun u4 => some u4 else none else none else some false) fun u3 => bif u3 then if (0 : Int) ≤ (Go.IntKind.wrap .i64 ((List.length r1 : Int) - (1 : Int))) then if (Go.IntKind.wrap .i64 ((List.length r1 : Int) - (1 : Int))) < (List.length r1 : Int) then Option.bind (zH ((ym r1 (Go.IntKind.wrap .i64 ((List.length r1 : Int) - (1 : Int)))), x.2.1, x.2.2.1, x.2.2.2.1, x.2.2.2.2.1, x.2.2.2.2.2)) fun r5 => if (0 : Int) ≤ (Go.IntKind.wrap .i64 ((List.length r1 : Int) - (1 : Int))) then if (Go.IntKind.wrap .i64 ((List.length r1 : Int) - (1 : Int))) < (List.length r1 : Int) then Option.bind (zm (List.set r1 (Int.toNat (Go.IntKind.wrap .i64 ((List.length r1 : Int) - (1 : Int)))) r5)) fun r6 => bif r6 then some ((List.set r1 (Int.toNat (Go.IntKind.wrap .i64 ((List.length r1 : Int) - (1 : Int)))) r5), true) else Option.bind (yA x.1) fun r7 => Option.bind (zH (r7, x.2)) fun r8 => Option.bind (Y5 r8) fun r9 => bif (decide ((List.length r9 : Int) > (8 : Int))) then Option.bind (zg x.1) fun r10 => some (r10, false) else Option.bind (yV r9) fun r11 => Option.bind (zm r11) fun r12 => bif (!r12) then Option.bind (zg x.1) fun r13 => some (r13, false) else Option.bind (yV r9) fun r14 => some (r14, true) else none else none else none else none else if (List.length r1 + List.length ([([x.2] : List y7)] : List yb)) * 24 < 140737488355328 then Option.bind (zm (r1 ++ ([([x.2] : List y7)] : List yb))) fun r15 => bif r15 then some ((r1 ++ ([([x.2] : List y7)] : List yb)), true) else Option.bind (yA x.1) fun r16 => Option.bind (zH (r16, x.2)) fun r17 => Option.bind (Y5 r17) fun r18 => bif (decide ((List.length r18 : Int) > (8 : Int))) then Option.bind (zg x.1) fun r19 => some (r19, false) else Option.bind (yV r18) fun r20 => Option.bind (zm r20) fun r21 => bif (!r21) then Option.bind (zg x.1) fun r22 => some (r22, false) else Option.bind (yV r18) fun r23 => some (r23, true) else none else none else none else Option.bind (bif (decide ((Go.IntKind.wrap .i64 ((List.length r1 : Int) - (1 : Int))) ≥ (0 : Int))) then if (0 : Int) ≤ (Go.IntKind.wrap .i64 ((List.length r1 : Int) - (1 : Int))) then if (Go.IntKind.wrap .i64 ((List.length r1 : Int) - (1 : Int))) < (List.length r1 : Int) then Option.bind (bif (decide (((List.length (ym r1 (Go.IntKind.wrap .i64 ((List.length r1 : Int) - (1 : Int)))) : Nat) : Int) < (4 : Int))) then some true else some false) fun u25 => some u25 else none else none else some false) fun u24 => bif u24 then if (0 : Int) ≤ (Go.IntKind.wrap .i64 ((List.length r1 : Int) - (1 : Int))) then if (Go.IntKind.wrap .i64 ((List.length r1 : Int) - (1 : Int))) < (List.length r1 : Int) then Option.bind (zH ((ym r1 (Go.IntKind.wrap .i64 ((List.length r1 : Int) - (1 : Int)))), x.2.1, x.2.2.1, x.2.2.2.1, x.2.2.2.2.1, x.2.2.2.2.2)) fun r26 => if (0 : Int) ≤ (Go.IntKind.wrap .i64 ((List.length r1 : Int) - (1 : Int))) then if (Go.IntKind.wrap .i64 ((List.length r1 : Int) - (1 : Int))) < (List.length r1 : Int) then Option.bind (zm (List.set r1 (Int.toNat (Go.IntKind.wrap .i64 ((List.length r1 : Int) - (1 : Int)))) r26)) fun r27 => bif r27 then some ((List.set r1 (Int.toNat (Go.IntKind.wrap .i64 ((List.length r1 : Int) - (1 : Int)))) r26), true) else Option.bind (yA x.1) fun r28 => Option.bind (zH (r28, x.2)) fun r29 => Option.bind (Y5 r29) fun r30 => bif (decide ((List.length r30 : Int) > (8 : Int))) then Option.bind (zg x.1) fun r31 => some (r31, false) else Option.bind (yV r30) fun r32 => Option.bind (zm r32) fun r33 => bif (!r33) then Option.bind (zg x.1) fun r34 => some (r34, false) else Option.bind (yV r30) fun r35 => some (r35, true) else none else none else none else none else if (List.length r1 + List.length ([([x.2] : List y7)] : List yb)) * 24 < 140737488355328 then Option.bind (zm (r1 ++ ([([x.2] : List y7)] : List yb))) fun r36 => bif r36 then some ((r1 ++ ([([x.2] : List y7)] : List yb)), true) else Option.bind (yA x.1) fun r37 => Option.bind (zH (r37, x.2)) fun r38 => Option.bind (Y5 r38) fun r39 => bif (decide ((List.length r39 : Int) > (8 : Int))) then Option.bind (zg x.1) fun r40 => some (r40, false) else Option.bind (yV r39) fun r41 => Option.bind (zm r41) fun r42 => bif (!r42) then Option.bind (zg x.1) fun r43 => some (r43, false) else Option.bind (yV r39) fun r44 => some (r44, true) else none
theorem yux : EV [yA2, yzY, yjU, ytM, ytP, ysj, yA8] lpN 162 Tryz.f162 yoo ysN yyb wA := fun x => by kernel_rfl
def yB9 : QF := ⟨162, wA, okN (n := 0) Tryz.func162 trivial yux⟩
def Jo (x : yAt) : Option Qz8 :=
 if (0 : Int) ≤ (0 : Int) then if (0 : Int) ≤ x.2.2.1 then if x.2.2.1 ≤ (List.length x.1 : Int) then if (List.length ([] : List yd) + List.length (List.drop (Int.toNat (0 : Int)) (List.take (Int.toNat x.2.2.1) x.1))) * 8 < 140737488355328 then if (List.length (([] : List yd) ++ (List.drop (Int.toNat (0 : Int)) (List.take (Int.toNat x.2.2.1) x.1))) + List.length x.2.2.2.1) * 8 < 140737488355328 then if (0 : Int) ≤ (Go.IntKind.wrap .i64 (x.2.2.1 + (1 : Int))) then if (Go.IntKind.wrap .i64 (x.2.2.1 + (1 : Int))) ≤ (List.length x.1 : Int) then if (List.length x.1 : Int) ≤ (List.length x.1 : Int) then if (List.length ((([] : List yd) ++ (List.drop (Int.toNat (0 : Int)) (List.take (Int.toNat x.2.2.1) x.1))) ++ x.2.2.2.1) + List.length (List.drop (Int.toNat (Go.IntKind.wrap .i64 (x.2.2.1 + (1 : Int)))) (List.take (Int.toNat (List.length x.1 : Int)) x.1))) * 8 < 140737488355328 then if (0 : Int) ≤ (0 : Int) then if (0 : Int) ≤ x.2.2.1 then if x.2.2.1 ≤ (List.length x.2.1 : Int) then if (List.length ([] : List y0) + List.length (List.drop (Int.toNat (0 : Int)) (List.take (Int.toNat x.2.2.1) x.2.1))) * 24 < 140737488355328 then if (List.length (([] : List y0) ++ (List.drop (Int.toNat (0 : Int)) (List.take (Int.toNat x.2.2.1) x.2.1))) + List.length x.2.2.2.2) * 24 < 140737488355328 then if (0 : Int) ≤ (Go.IntKind.wrap .i64 (x.2.2.1 + (1 : Int))) then if (Go.IntKind.wrap .i64 (x.2.2.1 + (1 : Int))) ≤ (List.length x.2.1 : Int) then if (List.length x.2.1 : Int) ≤ (List.length x.2.1 : Int) then if (List.length ((([] : List y0) ++ (List.drop (Int.toNat (0 : Int)) (List.take (Int.toNat x.2.2.1) x.2.1))) ++ x.2.2.2.2) + List.length (List.drop (Int.toNat (Go.IntKind.wrap .i64 (x.2.2.1 + (1 : Int)))) (List.take (Int.toNat (List.length x.2.1 : Int)) x.2.1))) * 24 < 140737488355328 then some ((((([] : List yd) ++ (List.drop (Int.toNat (0 : Int)) (List.take (Int.toNat x.2.2.1) x.1))) ++ x.2.2.2.1) ++ (List.drop (Int.toNat (Go.IntKind.wrap .i64 (x.2.2.1 + (1 : Int)))) (List.take (Int.toNat (List.length x.1 : Int)) x.1))), (((([] : List y0) ++ (List.drop (Int.toNat (0 : Int)) (List.take (Int.toNat x.2.2.1) x.2.1))) ++ x.2.2.2.2) ++ (List.drop (Int.toNat (Go.IntKind.wrap .i64 (x.2.2.1 + (1 : Int)))) (List.take (Int.toNat (List.length x.2.1 : Int)) x.2.1)))) else none else none else none else none else none else none else none else none else none else none else none else none else none else none else none else none else none else none
theorem yuy : EV [] lpN 163 Tryz.f163 yop yAu qz8 Jo := fun x => by kernel_rfl
def yBa : QF := ⟨163, Jo, okN (n := 0) Tryz.func163 trivial yuy⟩
abbrev vJ : Type := y9z
def WE (k0 : Int → Option R) (k1 : Unit → Option R) (again : vJ → Option R) (t2 : vJ) : Option R :=
 bif (decide ((Go.IntKind.wrap .i64 (t2.1 + (1 : Int))) < (List.length t2.2.2 : Int))) then if (0 : Int) ≤ t2.1 then if t2.1 < (List.length t2.2.2 : Int) then Option.bind (yA (ye t2.2.2 t2.1)) fun r1 => if (0 : Int) ≤ (Go.IntKind.wrap .i64 (t2.1 + (1 : Int))) then if (Go.IntKind.wrap .i64 (t2.1 + (1 : Int))) < (List.length t2.2.2 : Int) then Option.bind (yA (ye t2.2.2 (Go.IntKind.wrap .i64 (t2.1 + (1 : Int))))) fun r2 => bif (decide ((Go.IntKind.wrap .i64 ((List.length r1 : Int) + (List.length r2 : Int))) ≤ (6 : Int))) then k0 t2.1 else again ((Go.IntKind.wrap .i64 (t2.1 + (1 : Int))), t2.2.1, t2.2.2) else none else none else none else none else k1 ()
def QG k0 k1 := zV (@WE R k0 k1) Yg
def w6 (x : Qz8) : Option Int :=
 QG (fun x3 => some x3) (fun x4 => some (-1 : Int)) ((0 : Int), x.1, x.2)
def ykq : List QF := [yjU]
def y6Y (t : y9z) : St := ⟨.dead :: .box 1 0 :: .dead :: vI t.1 :: dd 26 [], [(1, .box [zj t.2.1, yJ t.2.2])]⟩
def yiA : Gk vJ := fun κ => WE (fun t => κ none ⟨dd 2 (vI t :: dd 27 []), []⟩) (fun t => κ (some 0) ⟨dd 30 [], []⟩)
def ykr : Lp := lpC 2 (unG yfA y6Y) @yiA lpN
theorem yq7 : LF ykq ykr 181 2 Tryz.f181 0 y6Y @yiA fun t => t := fun R κ again t => by kernel_rfl
theorem yq8 : LK ykq ykr 181 Tryz.f181 0 := lkN (u := (unG yfA y6Y)) (yu fun t => by kernel_rfl) yq7
theorem yuz : EV ykq ykr 181 Tryz.f181 yoq qz8 [(.int .i64)] w6 := fun x => by kernel_rfl
def yBb : QF := ⟨181, w6, okN (n := 1) Tryz.func181 ⟨yq8, trivial⟩ yuz⟩
abbrev vK : Type := y9z
def WF (k0 : Qz8 → Option R) (again : vK → Option R) (t2 : vK) : Option R :=
 bif (decide (t2.1 ≥ (0 : Int))) then if (0 : Int) ≤ t2.1 then if t2.1 < (List.length t2.2.2 : Int) then Option.bind (yA (ye t2.2.2 t2.1)) fun r2 => if (0 : Int) ≤ (Go.IntKind.wrap .i64 (t2.1 + (1 : Int))) then if (Go.IntKind.wrap .i64 (t2.1 + (1 : Int))) < (List.length t2.2.2 : Int) then Option.bind (yA (ye t2.2.2 (Go.IntKind.wrap .i64 (t2.1 + (1 : Int))))) fun r3 => if (List.length r2 + List.length r3) * 40 < 140737488355328 then if (0 : Int) ≤ (0 : Int) then if (0 : Int) ≤ (Go.IntKind.wrap .i64 (t2.1 + (1 : Int))) then if (Go.IntKind.wrap .i64 (t2.1 + (1 : Int))) ≤ (List.length t2.2.1 : Int) then if (List.length ([] : List yd) + List.length (List.drop (Int.toNat (0 : Int)) (List.take (Int.toNat (Go.IntKind.wrap .i64 (t2.1 + (1 : Int)))) t2.2.1))) * 8 < 140737488355328 then if (0 : Int) ≤ (Go.IntKind.wrap .i64 (t2.1 + (2 : Int))) then if (Go.IntKind.wrap .i64 (t2.1 + (2 : Int))) ≤ (List.length t2.2.1 : Int) then if (List.length t2.2.1 : Int) ≤ (List.length t2.2.1 : Int) then if (List.length (([] : List yd) ++ (List.drop (Int.toNat (0 : Int)) (List.take (Int.toNat (Go.IntKind.wrap .i64 (t2.1 + (1 : Int)))) t2.2.1))) + List.length (List.drop (Int.toNat (Go.IntKind.wrap .i64 (t2.1 + (2 : Int)))) (List.take (Int.toNat (List.length t2.2.1 : Int)) t2.2.1))) * 8 < 140737488355328 then if (0 : Int) ≤ (0 : Int) then if (0 : Int) ≤ t2.1 then if t2.1 ≤ (List.length t2.2.2 : Int) then if (List.length ([] : List y0) + List.length (List.drop (Int.toNat (0 : Int)) (List.take (Int.toNat t2.1) t2.2.2))) * 24 < 140737488355328 then Option.bind (yV (r2 ++ r3)) fun r4 => if (List.length (([] : List y0) ++ (List.drop (Int.toNat (0 : Int)) (List.take (Int.toNat t2.1) t2.2.2))) + List.length ([r4] : List y0)) * 24 < 140737488355328 then if (0 : Int) ≤ (Go.IntKind.wrap .i64 (t2.1 + (2 : Int))) then if (Go.IntKind.wrap .i64 (t2.1 + (2 : Int))) ≤ (List.length t2.2.2 : Int) then if (List.length t2.2.2 : Int) ≤ (List.length t2.2.2 : Int) then if (List.length ((([] : List y0) ++ (List.drop (Int.toNat (0 : Int)) (List.take (Int.toNat t2.1) t2.2.2))) ++ ([r4] : List y0)) + List.length (List.drop (Int.toNat (Go.IntKind.wrap .i64 (t2.1 + (2 : Int)))) (List.take (Int.toNat (List.length t2.2.2 : Int)) t2.2.2))) * 24 < 140737488355328 then Option.bind (w6 (((([] : List yd) ++ (List.drop (Int.toNat (0 : Int)) (List.take (Int.toNat (Go.IntKind.wrap .i64 (t2.1 + (1 : Int)))) t2.2.1))) ++ (List.drop (Int.toNat (Go.IntKind.wrap .i64 (t2.1 + (2 : Int)))) (List.take (Int.toNat (List.length t2.2.1 : Int)) t2.2.1))), (((([] : List y0) ++ (List.drop (Int.toNat (0 : Int)) (List.take (Int.toNat t2.1) t2.2.2))) ++ ([r4] : List y0)) ++ (List.drop (Int.toNat (Go.IntKind.wrap .i64 (t2.1 + (2 : Int)))) (List.take (Int.toNat (List.length t2.2.2 : Int)) t2.2.2))))) fun r5 => again (r5, ((([] : List yd) ++ (List.drop (Int.toNat (0 : Int)) (List.take (Int.toNat (Go.IntKind.wrap .i64 (t2.1 + (1 : Int)))) t2.2.1))) ++ (List.drop (Int.toNat (Go.IntKind.wrap .i64 (t2.1 + (2 : Int)))) (List.take (Int.toNat (List.length t2.2.1 : Int)) t2.2.1))), (((([] : List y0) ++ (List.drop (Int.toNat (0 : Int)) (List.take (Int.toNat t2.1) t2.2.2))) ++ ([r4] : List y0)) ++ (List.drop (Int.toNat (Go.IntKind.wrap .i64 (t2.1 + (2 : Int)))) (List.take (Int.toNat (List.length t2.2.2 : Int)) t2.2.2)))) else none else none else none else none else none else none else none else none else none else none else none else none else none else none else none else none else none else none else none else none else none else none else k0 t2.2
def QH k0 := zV (@WF R k0) Yg
def Zo (x : Qz8) : Option Qz8 :=
 Option.bind (w6 x) fun r1 => QH (fun x6 => some x6) (r1, x)
def yks : List QF := [yjU, ysj, yBb]
def y6Z (t : y9z) : St := ⟨.dead :: .box 1 0 :: .box 2 0 :: vI t.1 :: dd 56 [], [(1, .box [.own 10000000, .own 10000001]), (2, .box [.nils, .nils]), (10000000, .root true 3 yf t.2.1), (10000001, .root true 84 yk t.2.2)]⟩
def yiB : Gk vK := fun κ => WF (fun t => κ (some 0) ⟨.dead :: .box 1 0 :: .box 2 0 :: dd 57 [], [(1, .box [.own 10000000, .own 10000001]), (2, .box [.nils, .nils]), (10000000, .root true 3 yf t.1), (10000001, .root true 84 yk t.2)]⟩)
def ykt : Lp := lpC 2 (unG yfA y6Z) @yiB lpN
theorem yq9 : LF yks ykt 167 2 Tryz.f167 0 y6Z @yiB fun t => t := fun R κ again t => by kernel_rfl
theorem yqa : LK yks ykt 167 Tryz.f167 0 := lkN (u := (unG yfA y6Z)) (yu fun t => by kernel_rfl) yq9
theorem yuA : EV yks ykt 167 Tryz.f167 yor qz8 qz8 Zo := fun x => by kernel_rfl
def yBc : QF := ⟨167, Zo, okN (n := 1) Tryz.func167 ⟨yqa, trivial⟩ yuA⟩
def Y3 (x : yyc) : Option yye :=
 Option.bind (Zm (x.1, x.2.1)) fun r1 => Option.bind (Yv (x.1, x.2.1)) fun r2 => Option.bind (bif (!r2) then some true else Option.bind (W8 x.2.2) fun r4 => some (!r4)) fun u3 => bif u3 then some (r1.1, r1.2, false) else Option.bind (J0 (x.1, x.2.1, x.2.2.1, x.2.2.2.1)) fun r5 => if (0 : Int) ≤ r5 then if r5 < (List.length x.2.1 : Int) then Option.bind (wA ((ye x.2.1 r5), x.2.2.1, x.2.2.2.1, x.2.2.2.2.1, x.2.2.2.2.2.1, x.2.2.2.2.2.2)) fun r6 => if (0 : Int) ≤ r5 then if r5 < (List.length x.1 : Int) then Option.bind (Jo (r1.1, r1.2, r5, ([(zw x.1 r5)] : List yd), ([r6.1] : List y0))) fun r7 => bif (!r6.2) then if (0 : Int) ≤ r5 then if r5 < (List.length x.2.1 : Int) then Option.bind (yA (ye x.2.1 r5)) fun r8 => Option.bind (zH (r8, x.2.2)) fun r9 => Option.bind (Y5 r9) fun r10 => if (0 : Int) ≤ r5 then if r5 < (List.length x.1 : Int) then if (0 : Int) ≤ (Go.IntKind.wrap .i64 (Int.tdiv (Go.IntKind.wrap .i64 ((List.length r10 : Int) + (1 : Int))) (2 : Int))) then if (Go.IntKind.wrap .i64 (Int.tdiv (Go.IntKind.wrap .i64 ((List.length r10 : Int) + (1 : Int))) (2 : Int))) < (List.length r10 : Int) then Option.bind (JX ((y6 r10 (Go.IntKind.wrap .i64 (Int.tdiv (Go.IntKind.wrap .i64 ((List.length r10 : Int) + (1 : Int))) (2 : Int)))).1, (y6 r10 (Go.IntKind.wrap .i64 (Int.tdiv (Go.IntKind.wrap .i64 ((List.length r10 : Int) + (1 : Int))) (2 : Int)))).2.1, (y6 r10 (Go.IntKind.wrap .i64 (Int.tdiv (Go.IntKind.wrap .i64 ((List.length r10 : Int) + (1 : Int))) (2 : Int)))).2.2.1, (y6 r10 (Go.IntKind.wrap .i64 (Int.tdiv (Go.IntKind.wrap .i64 ((List.length r10 : Int) + (1 : Int))) (2 : Int)))).2.2.2.1, (y6 r10 (Go.IntKind.wrap .i64 (Int.tdiv (Go.IntKind.wrap .i64 ((List.length r10 : Int) + (1 : Int))) (2 : Int)))).2.2.2.2)) fun r11 => if (0 : Int) ≤ (0 : Int) then if (0 : Int) ≤ (Go.IntKind.wrap .i64 (Int.tdiv (Go.IntKind.wrap .i64 ((List.length r10 : Int) + (1 : Int))) (2 : Int))) then if (Go.IntKind.wrap .i64 (Int.tdiv (Go.IntKind.wrap .i64 ((List.length r10 : Int) + (1 : Int))) (2 : Int))) ≤ (List.length r10 : Int) then Option.bind (yV (List.drop (Int.toNat (0 : Int)) (List.take (Int.toNat (Go.IntKind.wrap .i64 (Int.tdiv (Go.IntKind.wrap .i64 ((List.length r10 : Int) + (1 : Int))) (2 : Int)))) r10))) fun r12 => if (0 : Int) ≤ (Go.IntKind.wrap .i64 (Int.tdiv (Go.IntKind.wrap .i64 ((List.length r10 : Int) + (1 : Int))) (2 : Int))) then if (Go.IntKind.wrap .i64 (Int.tdiv (Go.IntKind.wrap .i64 ((List.length r10 : Int) + (1 : Int))) (2 : Int))) ≤ (List.length r10 : Int) then if (List.length r10 : Int) ≤ (List.length r10 : Int) then Option.bind (yV (List.drop (Int.toNat (Go.IntKind.wrap .i64 (Int.tdiv (Go.IntKind.wrap .i64 ((List.length r10 : Int) + (1 : Int))) (2 : Int)))) (List.take (Int.toNat (List.length r10 : Int)) r10))) fun r13 => Option.bind (Jo (r1.1, r1.2, r5, ([(zw x.1 r5), r11] : List yd), ([r12, r13] : List y0))) fun r14 => Option.bind (Zo r14) fun r15 => Option.bind (Yv r15) fun r16 => bif (!r16) then some (r1.1, r1.2, false) else some (r15.1, r15.2, true) else none else none else none else none else none else none else none else none else none else none else none else none else Option.bind (bif (decide (r5 > (0 : Int))) then Option.bind (yA r6.1) fun r18 => some ((List.length r18 : Int) == (0 : Int)) else some false) fun u17 => bif u17 then Option.bind (Jo (r1.1, r1.2, r5, ([] : List yd), ([] : List y0))) fun r19 => Option.bind (Zo r19) fun r20 => Option.bind (Yv r20) fun r21 => bif (!r21) then some (r1.1, r1.2, false) else some (r20.1, r20.2, true) else Option.bind (Zo r7) fun r22 => Option.bind (Yv r22) fun r23 => bif (!r23) then some (r1.1, r1.2, false) else some (r22.1, r22.2, true) else none else none else none else none
theorem yuB : EV [yA1, yue, yjU, yA0, yA7, yzW, yB9, yBa, ytM, ytP, ysj, yBc] lpN 144 Tryz.f144 yos yyd yyf Y3 := fun x => by kernel_rfl
def yuC : QF := ⟨144, Y3, okN (n := 0) Tryz.func144 trivial yuB⟩
def ZV (x : ylK) : Option (List y8) :=
 Option.bind (Y6 x.1) fun r1 => Option.bind (ZJ x.1) fun r2 => Option.bind (bif r2 then Option.bind (yz (x.2, (0 : Int), (Go.IntKind.wrap .i64 ((List.length x.1 : Int) - (1 : Int))))) fun r4 => some r4 else some false) fun u3 => Option.bind (bif u3 then if (0 : Int) ≤ x.2 then if x.2 < (List.length x.1 : Int) then some ((yo x.1 x.2).2.1) else none else none else some false) fun u5 => bif u5 then if (0 : Int) ≤ x.2 then if x.2 < (List.length x.1 : Int) then if (0 : Int) ≤ x.2 then if x.2 < (List.length r1 : Int) then some (List.set r1 (Int.toNat x.2) ((Int.tmod (Go.IntKind.wrap .i64 ((yo x.1 x.2).1 + (1 : Int))) (1000 : Int)), false, (0 : Int))) else none else none else none else none else some r1
theorem yuD : EV [y6t, yu1, yug] lpN 153 Tryz.f153 yot ylL [(.sl 79 yg)] ZV := fun x => by kernel_rfl
def yA9 : QF := ⟨153, ZV, okN (n := 0) Tryz.func153 trivial yuD⟩
def wB (x : yAv) : Option Qz9 :=
 Option.bind (bif x.2.2.2.2.2.2.2.2.2.2.2 then some (x.2.2.2.2.2.2.2.2.1 == (1 : Int)) else some false) fun u1 => bif u1 then Option.bind (ZV (x.2.2.2.1, x.2.2.2.2.2.2.2.2.2.1)) fun r2 => some (x.1, x.2.1, x.2.2.1, r2, x.2.2.2.2.1, x.2.2.2.2.2.1) else some (x.1, x.2.1, x.2.2.1, x.2.2.2.1, x.2.2.2.2.1, x.2.2.2.2.2.1)
theorem yuE : EV [yA9] lpN 145 Tryz.f145 yov yAw qz9 wB := fun x => by kernel_rfl
def yBd : QF := ⟨145, wB, okN (n := 0) Tryz.func145 trivial yuE⟩
def zx (x : ymh) : Option yi6 :=
 Option.bind (jx (x.1, x.2.1, x.2.2.2.2.2.2.1, x.2.2.2.2.2.2.2.1)) fun r1 => Option.bind (Y3 (x.1, x.2.1, x.2.2.2.2.2.2)) fun r2 => bif (!r2.2.2) then some (false, x.1, x.2.1, x.2.2.1, x.2.2.2.1, x.2.2.2.2.1, x.2.2.2.2.2.1) else Option.bind (wB (r2.1, r2.2.1, x.2.2.1, x.2.2.2.1, x.2.2.2.2.1, x.2.2.2.2.2.1, r1)) fun r3 => some (true, r3)
theorem yuF : EV [yuv, yuC, yBd] lpN 125 Tryz.f125 yow ymi ys6 zx := fun x => by kernel_rfl
def yuG : QF := ⟨125, zx, okN (n := 0) Tryz.func125 trivial yuF⟩
def Zp (x : yyg) : Option y8H :=
 Option.bind (yj (x.1, x.2.1, x.2.2.1, x.2.2.2.1, x.2.2.2.2.1, x.2.2.2.2.2.1)) fun r1 => Option.bind (Z5 (x.1, x.2.1, x.2.2.1, x.2.2.2.1, x.2.2.2.2.1, x.2.2.2.2.2.1, x.2.2.2.2.2.2.1, x.2.2.2.2.2.2.2.1)) fun r2 => Option.bind (bif (r2 == (0 : Int)) then Option.bind (zl x.2.2.2.2.2.2.2.2) fun r4 => some (!r4) else some false) fun u3 => bif u3 then bif ((4 : Int) != (0 : Int)) then some (r1.1, r1.2.1, r1.2.2.1, r1.2.2.2.1, r1.2.2.2.2.1, r1.2.2.2.2.2, (4 : Int)) else Option.bind (Y7 (x.2.2.2.1, x.2.2.2.2.2.2.2.2)) fun r5 => bif r5.2.2 then Option.bind (zk (x.1, x.2.1, x.2.2.1, x.2.2.2.1, x.2.2.2.2.1, x.2.2.2.2.2.1, x.2.2.2.2.2.2.1)) fun r6 => if (0 : Int) ≤ r6 then if r6 < (List.length x.2.2.2.2.1 : Int) then if (0 : Int) ≤ r5.2.1 then if r5.2.1 < (List.length r5.1 : Int) then Option.bind (zx (r1.1, r1.2.1, r1.2.2.1, r5.1, r1.2.2.2.2.1, r1.2.2.2.2.2, x.2.2.2.2.2.2.2.1, (ya x.2.2.2.2.1 r6).2.1, (1 : Int), r5.2.1, (yo r5.1 r5.2.1).1)) fun r7 => Option.bind (yC (x.1, x.2.1, x.2.2.1, x.2.2.2.1, x.2.2.2.2.1, x.2.2.2.2.2.1, r7.2.1, r7.2.2.1, r7.2.2.2.1, r7.2.2.2.2.1, r7.2.2.2.2.2.1, r7.2.2.2.2.2.2, r7.1)) fun r8 => some r8 else none else none else none else none else Option.bind (yC (x.1, x.2.1, x.2.2.1, x.2.2.2.1, x.2.2.2.2.1, x.2.2.2.2.2.1, r1.1, r1.2.1, r1.2.2.1, r5.1, r1.2.2.2.2.1, r1.2.2.2.2.2, false)) fun r9 => some r9 else bif (r2 != (0 : Int)) then some (r1.1, r1.2.1, r1.2.2.1, r1.2.2.2.1, r1.2.2.2.2.1, r1.2.2.2.2.2, r2) else Option.bind (Y7 (x.2.2.2.1, x.2.2.2.2.2.2.2.2)) fun r10 => bif r10.2.2 then Option.bind (zk (x.1, x.2.1, x.2.2.1, x.2.2.2.1, x.2.2.2.2.1, x.2.2.2.2.2.1, x.2.2.2.2.2.2.1)) fun r11 => if (0 : Int) ≤ r11 then if r11 < (List.length x.2.2.2.2.1 : Int) then if (0 : Int) ≤ r10.2.1 then if r10.2.1 < (List.length r10.1 : Int) then Option.bind (zx (r1.1, r1.2.1, r1.2.2.1, r10.1, r1.2.2.2.2.1, r1.2.2.2.2.2, x.2.2.2.2.2.2.2.1, (ya x.2.2.2.2.1 r11).2.1, (1 : Int), r10.2.1, (yo r10.1 r10.2.1).1)) fun r12 => Option.bind (yC (x.1, x.2.1, x.2.2.1, x.2.2.2.1, x.2.2.2.2.1, x.2.2.2.2.2.1, r12.2.1, r12.2.2.1, r12.2.2.2.1, r12.2.2.2.2.1, r12.2.2.2.2.2.1, r12.2.2.2.2.2.2, r12.1)) fun r13 => some r13 else none else none else none else none else Option.bind (yC (x.1, x.2.1, x.2.2.1, x.2.2.2.1, x.2.2.2.2.1, x.2.2.2.2.2.1, r1.1, r1.2.1, r1.2.2.1, r10.1, r1.2.2.2.2.1, r1.2.2.2.2.2, false)) fun r14 => some r14
theorem yBe : EV [q77, ysi, yit, ylR, yup, yA6, yuG] lpN 81 Tryz.f81 yyR yyh y8I Zp := fun x => by kernel_rfl
def q81 : QF := ⟨81, Zp, okN (n := 0) Tryz.func81 trivial yBe⟩
abbrev WG : Type := yyi
def WH (k0 : List yd → Option R) (again : WG → Option R) (t3 : WG) : Option R :=
 Option.bind (bif (decide (t3.2.1 ≥ (0 : Int))) then some (decide ((List.length t3.2.2 : Int) ≤ (List.length t3.1 : Int))) else some false) fun u2 => bif u2 then if (0 : Int) ≤ t3.2.1 then if t3.2.1 < (List.length t3.1 : Int) then if (List.length t3.2.2 + List.length ([(yM t3.1 t3.2.1).1] : List yd)) * 8 < 140737488355328 then if (0 : Int) ≤ t3.2.1 then if t3.2.1 < (List.length t3.1 : Int) then Option.bind (zP (t3.1, (yM t3.1 t3.2.1).2)) fun r3 => again (t3.1, r3, (t3.2.2 ++ ([(yM t3.1 t3.2.1).1] : List yd))) else none else none else none else none else none else k0 t3.2.2
def QI k0 := zV (@WH R k0) Yg
def w7 (x : yfB) : Option (List yd) :=
 Option.bind (zP x) fun r1 => QI (fun x4 => some x4) (x.1, r1, ([] : List yd))
def yku : List QF := [ylQ]
def y70 (t : yyi) : St := ⟨zz t.1 :: dd 4 (.own 10000000 :: vI t.2.1 :: dd 29 []), [(10000000, .root true 3 yf t.2.2)]⟩
def yiC : Gk WG := fun κ => WH (fun t => κ (some 0) ⟨dd 5 (.own 10000000 :: dd 30 []), [(10000000, .root true 3 yf t)]⟩)
def ykv : Lp := lpC 3 (unG yyj y70) @yiC lpN
theorem yqb : LF yku ykv 168 3 Tryz.f168 0 y70 @yiC fun t => t := fun R κ again t => by kernel_rfl
theorem yqc : LK yku ykv 168 Tryz.f168 0 := lkN (u := (unG yyj y70)) (yu fun t => by kernel_rfl) yqb
theorem yuH : EV yku ykv 168 Tryz.f168 yox yfC [(.sl 3 yf)] w7 := fun x => by kernel_rfl
def yAa : QF := ⟨168, w7, okN (n := 1) Tryz.func168 ⟨yqc, trivial⟩ yuH⟩
abbrev vL : Type := yyk
def Jp (k0 : List y7 → Option R) (again : vL → Option R) (t4 : vL) : Option R :=
 bif (decide (t4.2.1 < (List.length t4.2.2.2 : Int))) then if (0 : Int) ≤ t4.2.1 then if t4.2.1 < (List.length t4.2.2.2 : Int) then bif ((y6 t4.2.2.2 t4.2.1).1 == t4.1) then if (0 : Int) ≤ t4.2.1 then if t4.2.1 < (List.length t4.2.2.2 : Int) then if (List.length t4.2.2.1 + List.length ([((y6 t4.2.2.2 t4.2.1).1, (y6 t4.2.2.2 t4.2.1).2.1, (y6 t4.2.2.2 t4.2.1).2.2.1, (y6 t4.2.2.2 t4.2.1).2.2.2.1, (y6 t4.2.2.2 t4.2.1).2.2.2.2)] : List y7)) * 40 < 140737488355328 then again (t4.1, (Go.IntKind.wrap .i64 (t4.2.1 + (1 : Int))), (t4.2.2.1 ++ ([((y6 t4.2.2.2 t4.2.1).1, (y6 t4.2.2.2 t4.2.1).2.1, (y6 t4.2.2.2 t4.2.1).2.2.1, (y6 t4.2.2.2 t4.2.1).2.2.2.1, (y6 t4.2.2.2 t4.2.1).2.2.2.2)] : List y7)), t4.2.2.2) else none else none else none else again (t4.1, (Go.IntKind.wrap .i64 (t4.2.1 + (1 : Int))), t4.2.2.1, t4.2.2.2) else none else none else k0 t4.2.2.1
def QJ k0 := zV (@Jp R k0) Yg
def WI (x : ym9) : Option (List y7) :=
 Option.bind (yN (x.1, x.2.1)) fun r1 => QJ (fun x2 => some x2) (x.2.2, (0 : Int), ([] : List y7), r1)
def ykw : List QF := [yjX]
def y71 (t : yyk) : St := ⟨.dead :: vI t.1 :: dd 3 (.own 10000000 :: .own 10000001 :: vI t.2.1 :: dd 24 []), [(10000000, .root true 81 yh t.2.2.1), (10000001, .root true 81 yh t.2.2.2)]⟩
def yiD : Gk vL := fun κ => Jp (fun t => κ (some 0) ⟨dd 5 (.own 10000000 :: dd 26 []), [(10000000, .root true 81 yh t)]⟩)
def ykx : Lp := lpC 4 (unG yyl y71) @yiD lpN
theorem yqd : LF ykw ykx 182 4 Tryz.f182 0 y71 @yiD fun t => t := fun R κ again t => by kernel_rfl
theorem yqe : LK ykw ykx 182 Tryz.f182 0 := lkN (u := (unG yyl y71)) (yu fun t => by kernel_rfl) yqd
theorem yuI : EV ykw ykx 182 Tryz.f182 yoy yma [(.sl 81 yh)] WI := fun x => by kernel_rfl
def yBf : QF := ⟨182, WI, okN (n := 1) Tryz.func182 ⟨yqe, trivial⟩ yuI⟩
abbrev VF : Type := yym
def wC (k0 : Bool → Option R) (k1 : Unit → Option R) (again : VF → Option R) (t2 : VF) : Option R :=
 bif (decide (t2.2.2 < (List.length t2.1 : Int))) then if (0 : Int) ≤ t2.2.2 then if t2.2.2 < (List.length t2.1 : Int) then bif ((zw t2.1 t2.2.2) == t2.2.1) then k0 true else again (t2.1, t2.2.1, (Go.IntKind.wrap .i64 (t2.2.2 + (1 : Int)))) else none else none else k1 ()
def y0L k0 k1 := zV (@wC R k0 k1) Yg
def KA (x : ysO) : Option Bool :=
 y0L (fun x1 => some x1) (fun x2 => some false) (x.1, x.2, (0 : Int))
def yky : List QF := []
def y72 (t : yym) : St := ⟨zj t.1 :: vI t.2.1 :: dd 3 (vI t.2.2 :: dd 12 []), []⟩
def yiE : Gk VF := fun κ => wC (fun t => κ none ⟨dd 4 (vB t :: dd 13 []), []⟩) (fun t => κ (some 0) ⟨dd 18 [], []⟩)
def ykz : Lp := lpC 2 (unG yyn y72) @yiE lpN
theorem yqf : LF yky ykz 183 2 Tryz.f183 0 y72 @yiE fun t => t := fun R κ again t => by kernel_rfl
theorem yqg : LK yky ykz 183 Tryz.f183 0 := lkN (u := (unG yyn y72)) (yu fun t => by kernel_rfl) yqf
theorem yuJ : EV yky ykz 183 Tryz.f183 yoz ysP [.bool] KA := fun x => by kernel_rfl
def yBg : QF := ⟨183, KA, okN (n := 1) Tryz.func183 ⟨yqg, trivial⟩ yuJ⟩
abbrev vM : Type := yyo
def Jq (k0 : yyq → Option R) (again : vM → Option R) (t5 : vM) : Option R :=
 bif (decide (t5.2.2.1 < (List.length t5.2.2.2.2.2.2.2.2.2.2.2.2.2 : Int))) then if (0 : Int) ≤ t5.2.2.1 then if t5.2.2.1 < (List.length t5.2.2.2.2.2.2.2.2.2.2.2.2.2 : Int) then Option.bind (KA (t5.1, (y6 t5.2.2.2.2.2.2.2.2.2.2.2.2.2 t5.2.2.1).2.1)) fun r2 => Option.bind (bif r2 then Option.bind (bif (!t5.2.1) then some true else if (0 : Int) ≤ t5.2.2.1 then if t5.2.2.1 < (List.length t5.2.2.2.2.2.2.2.2.2.2.2.2.2 : Int) then some (decide ((y6 t5.2.2.2.2.2.2.2.2.2.2.2.2.2 t5.2.2.1).2.1 > t5.2.2.2.2.2.2.2.2.2.1)) else none else none) fun u4 => some u4 else some false) fun u3 => bif u3 then if (0 : Int) ≤ t5.2.2.1 then if t5.2.2.1 < (List.length t5.2.2.2.2.2.2.2.2.2.2.2.2.2 : Int) then again (t5.1, true, (Go.IntKind.wrap .i64 (t5.2.2.1 + (1 : Int))), t5.2.2.2.1, t5.2.2.2.2.1, t5.2.2.2.2.2.1, t5.2.2.2.2.2.2.1, t5.2.2.2.2.2.2.2.1, (y6 t5.2.2.2.2.2.2.2.2.2.2.2.2.2 t5.2.2.1).1, (y6 t5.2.2.2.2.2.2.2.2.2.2.2.2.2 t5.2.2.1).2.1, (y6 t5.2.2.2.2.2.2.2.2.2.2.2.2.2 t5.2.2.1).2.2.1, (y6 t5.2.2.2.2.2.2.2.2.2.2.2.2.2 t5.2.2.1).2.2.2.1, (y6 t5.2.2.2.2.2.2.2.2.2.2.2.2.2 t5.2.2.1).2.2.2.2, t5.2.2.2.2.2.2.2.2.2.2.2.2.2) else none else none else again (t5.1, t5.2.1, (Go.IntKind.wrap .i64 (t5.2.2.1 + (1 : Int))), t5.2.2.2.1, t5.2.2.2.2.1, t5.2.2.2.2.2.1, t5.2.2.2.2.2.2.1, t5.2.2.2.2.2.2.2.1, t5.2.2.2.2.2.2.2.2.1, t5.2.2.2.2.2.2.2.2.2.1, t5.2.2.2.2.2.2.2.2.2.2.1, t5.2.2.2.2.2.2.2.2.2.2.2.1, t5.2.2.2.2.2.2.2.2.2.2.2.2.1, t5.2.2.2.2.2.2.2.2.2.2.2.2.2) else none else none else k0 (t5.2.1, t5.2.2.2.1, t5.2.2.2.2.1, t5.2.2.2.2.2.1, t5.2.2.2.2.2.2.1, t5.2.2.2.2.2.2.2.1, t5.2.2.2.2.2.2.2.2.1, t5.2.2.2.2.2.2.2.2.2.1, t5.2.2.2.2.2.2.2.2.2.2.1, t5.2.2.2.2.2.2.2.2.2.2.2.1, t5.2.2.2.2.2.2.2.2.2.2.2.2.1)
def QK k0 := zV (@Jq R k0) Yg
def jy (x : yyr) : Option yem :=
 Option.bind (WI (x.1, x.2.1, x.2.2.1)) fun r1 => QK (fun x5 => some (x5.2.2.2.2.2.2.1, x5.2.2.2.2.2.2.2.1, x5.2.2.2.2.2.2.2.2.1, x5.2.2.2.2.2.2.2.2.2.1, x5.2.2.2.2.2.2.2.2.2.2, x5.1)) (x.2.2.2, false, (0 : Int), (0 : Int), (0 : Int), (0 : Int), (0 : Int), (0 : Int), (0 : Int), (0 : Int), (0 : Int), (0 : Int), (0 : Int), r1)
def ykA : List QF := [yBf, yBg]
def y73 (t : yyo) : St := ⟨dd 2 (zj t.1 :: dd 3 (.box 6 0 :: .dead :: .box 8 0 :: vB t.2.1 :: .own 10000000 :: vI t.2.2.1 :: dd 37 [])), [(6, .box [vI t.2.2.2.1, vI t.2.2.2.2.1, vI t.2.2.2.2.2.1, vI t.2.2.2.2.2.2.1, vI t.2.2.2.2.2.2.2.1]), (8, .box [vI t.2.2.2.2.2.2.2.2.1, vI t.2.2.2.2.2.2.2.2.2.1, vI t.2.2.2.2.2.2.2.2.2.2.1, vI t.2.2.2.2.2.2.2.2.2.2.2.1, vI t.2.2.2.2.2.2.2.2.2.2.2.2.1]), (10000000, .root true 81 yh t.2.2.2.2.2.2.2.2.2.2.2.2.2)]⟩
def yiF : Gk vM := fun κ => Jq (fun t => κ (some 0) ⟨dd 6 (.box 6 0 :: .dead :: .box 8 0 :: vB t.1 :: dd 39 []), [(6, .box [vI t.2.1, vI t.2.2.1, vI t.2.2.2.1, vI t.2.2.2.2.1, vI t.2.2.2.2.2.1]), (8, .box [vI t.2.2.2.2.2.2.1, vI t.2.2.2.2.2.2.2.1, vI t.2.2.2.2.2.2.2.2.1, vI t.2.2.2.2.2.2.2.2.2.1, vI t.2.2.2.2.2.2.2.2.2.2])]⟩)
def ykB : Lp := lpC 5 (unG yyp y73) @yiF lpN
theorem yqh : LF ykA ykB 169 5 Tryz.f169 0 y73 @yiF fun t => t := fun R κ again t => by kernel_rfl
theorem yqi : LK ykA ykB 169 Tryz.f169 0 := lkN (u := (unG yyp y73)) (yu fun t => by kernel_rfl) yqh
theorem yuK : EV ykA ykB 169 Tryz.f169 yoA yys yen jy := fun x => by kernel_rfl
def yAb : QF := ⟨169, jy, okN (n := 1) Tryz.func169 ⟨yqi, trivial⟩ yuK⟩
def Zc (x : ysQ) : Option yem :=
 Option.bind (w7 (x.2.2.1, x.2.2.2.2)) fun r1 => bif ((List.length r1 : Int) == (0 : Int)) then some ((0 : Int), (0 : Int), (0 : Int), (0 : Int), (0 : Int), false) else if (0 : Int) ≤ (1 : Int) then if (1 : Int) ≤ (List.length r1 : Int) then if (List.length r1 : Int) ≤ (List.length r1 : Int) then Option.bind (jy (x.1, x.2.1, x.2.2.2.1, (List.drop (Int.toNat (1 : Int)) (List.take (Int.toNat (List.length r1 : Int)) r1)))) fun r2 => some r2 else none else none else none
theorem yuL : EV [yAa, yAb] lpN 146 Tryz.f146 yoB ysR yen Zc := fun x => by kernel_rfl
def yAc : QF := ⟨146, Zc, okN (n := 0) Tryz.func146 trivial yuL⟩
def Ym (x : yyt) : Option yi6 :=
 if (0 : Int) ≤ x.2.2.2.2.2.2.1 then if x.2.2.2.2.2.2.1 < (List.length x.2.2.2.2.1 : Int) then Option.bind (Zc (x.1, x.2.1, x.2.2.1, x.2.2.2.2.2.2.2, (ya x.2.2.2.2.1 x.2.2.2.2.2.2.1).2.1)) fun r1 => Option.bind (bif r1.2.2.2.2.2 then some (r1.2.2.1 == (1 : Int)) else some false) fun u2 => bif u2 then Option.bind (zx (x.1, x.2.1, x.2.2.1, x.2.2.2.1, x.2.2.2.2.1, x.2.2.2.2.2.1, x.2.2.2.2.2.2.2, (ya x.2.2.2.2.1 x.2.2.2.2.2.2.1).2.1, (2 : Int), (0 : Int), (0 : Int))) fun r3 => some r3 else Option.bind (jx (x.1, x.2.1, x.2.2.2.2.2.2.2, (ya x.2.2.2.2.1 x.2.2.2.2.2.2.1).2.1)) fun r4 => bif (!r4.2.2.2.2.2) then some (true, x.1, x.2.1, x.2.2.1, x.2.2.2.1, x.2.2.2.2.1, x.2.2.2.2.2.1) else Option.bind (zx (x.1, x.2.1, x.2.2.1, x.2.2.2.1, x.2.2.2.2.1, x.2.2.2.2.2.1, x.2.2.2.2.2.2.2, (ya x.2.2.2.2.1 x.2.2.2.2.2.2.1).2.1, (0 : Int), (0 : Int), (0 : Int))) fun r5 => some r5 else none else none
theorem yuM : EV [yuG, yuv, yAc] lpN 126 Tryz.f126 yoC yyu ys6 Ym := fun x => by kernel_rfl
def yAd : QF := ⟨126, Ym, okN (n := 0) Tryz.func126 trivial yuM⟩
def Yw (x : ymf) : Option y8H :=
 Option.bind (yj (x.1, x.2.1, x.2.2.1, x.2.2.2.1, x.2.2.2.2.1, x.2.2.2.2.2.1)) fun r1 => Option.bind (Z5 x) fun r2 => bif (r2 != (0 : Int)) then some (r1.1, r1.2.1, r1.2.2.1, r1.2.2.2.1, r1.2.2.2.2.1, r1.2.2.2.2.2, r2) else Option.bind (zk (x.1, x.2.1, x.2.2.1, x.2.2.2.1, x.2.2.2.2.1, x.2.2.2.2.2.1, x.2.2.2.2.2.2.1)) fun r3 => Option.bind (Ym (r1.1, r1.2.1, r1.2.2.1, r1.2.2.2.1, r1.2.2.2.2.1, r1.2.2.2.2.2, r3, x.2.2.2.2.2.2.2)) fun r4 => Option.bind (yC (x.1, x.2.1, x.2.2.1, x.2.2.2.1, x.2.2.2.2.1, x.2.2.2.2.2.1, r4.2.1, r4.2.2.1, r4.2.2.2.1, r4.2.2.2.2.1, r4.2.2.2.2.2.1, r4.2.2.2.2.2.2, r4.1)) fun r5 => some r5
theorem yBh : EV [q77, yit, ylR, yup, yAd] lpN 82 Tryz.f82 yyS ymg y8I Yw := fun x => by kernel_rfl
def q82 : QF := ⟨82, Yw, okN (n := 0) Tryz.func82 trivial yBh⟩
abbrev jO : Type := ymj ⊕ ymk
def Ye (k0 : yAx → Option R) (k1 : yAy → Option R) (again : jO → Option R) : jO → Option R
 | .inl t10 => Option.bind (bif (decide (t10.2.2.2.1 ≥ t10.1)) then some t10.2.2.1 else some false) fun u15 => bif u15 then Option.bind (Ym (t10.2.2.2.2.2.2.2.2.2.2.2.2.1, t10.2.2.2.2.2.2.2.2.2.2.2.2.2.1, t10.2.2.2.2.2.2.2.2.2.2.2.2.2.2.1, t10.2.2.2.2.2.2.2.2.2.2.2.2.2.2.2.1, t10.2.2.2.2.2.2.2.2.2.2.2.2.2.2.2.2, t10.2.2.2.2.2.2.2.2.2.2.2.1, t10.2.1, t10.2.2.2.1)) fun r16 => again (Sum.inr (t10.1, t10.2.1, r16.1, (Go.IntKind.wrap .i64 (t10.2.2.2.1 - (1 : Int))), t10.2.2.2.2.1, t10.2.2.2.2.2.1, t10.2.2.2.2.2.2.1, t10.2.2.2.2.2.2.2.1, t10.2.2.2.2.2.2.2.2.1, t10.2.2.2.2.2.2.2.2.2.1, t10.2.2.2.2.2.2.2.2.2.2.1, r16.2.1, r16.2.2.1, r16.2.2.2.1, r16.2.2.2.2.2.2, r16.2.2.2.2.1, r16.2.2.2.2.2.1)) else k0 (t10.1, t10.2.1, t10.2.2.1, t10.2.2.2.2)
 | .inr t10 => Option.bind (bif (decide (t10.2.2.2.1 ≥ t10.1)) then some t10.2.2.1 else some false) fun u17 => bif u17 then Option.bind (Ym (t10.2.2.2.2.2.2.2.2.2.2.2.1, t10.2.2.2.2.2.2.2.2.2.2.2.2.1, t10.2.2.2.2.2.2.2.2.2.2.2.2.2.1, t10.2.2.2.2.2.2.2.2.2.2.2.2.2.2.2.1, t10.2.2.2.2.2.2.2.2.2.2.2.2.2.2.2.2, t10.2.2.2.2.2.2.2.2.2.2.2.2.2.2.1, t10.2.1, t10.2.2.2.1)) fun r18 => again (Sum.inr (t10.1, t10.2.1, r18.1, (Go.IntKind.wrap .i64 (t10.2.2.2.1 - (1 : Int))), t10.2.2.2.2.1, t10.2.2.2.2.2.1, t10.2.2.2.2.2.2.1, t10.2.2.2.2.2.2.2.1, t10.2.2.2.2.2.2.2.2.1, t10.2.2.2.2.2.2.2.2.2.1, t10.2.2.2.2.2.2.2.2.2.2.1, r18.2.1, r18.2.2.1, r18.2.2.2.1, r18.2.2.2.2.2.2, r18.2.2.2.2.1, r18.2.2.2.2.2.1)) else k1 (t10.1, t10.2.1, t10.2.2.1, t10.2.2.2.2)
def Zd k0 k1 := zV (@Ye R k0 k1) Yg
def YW (x : ymf) : Option y8H :=
 Option.bind (yj (x.1, x.2.1, x.2.2.1, x.2.2.2.1, x.2.2.2.2.1, x.2.2.2.2.2.1)) fun r1 => Option.bind (Z5 (x.1, x.2.1, x.2.2.1, x.2.2.2.1, x.2.2.2.2.1, x.2.2.2.2.2.1, x.2.2.2.2.2.2.1, (0 : Int))) fun r2 => Option.bind (bif (r2 == (0 : Int)) then Option.bind (yz (x.2.2.2.2.2.2.2, (1 : Int), (12 : Int))) fun r4 => some (!r4) else some false) fun u3 => bif u3 then bif ((4 : Int) != (0 : Int)) then some (r1.1, r1.2.1, r1.2.2.1, r1.2.2.2.1, r1.2.2.2.2.1, r1.2.2.2.2.2, (4 : Int)) else Option.bind (zk (x.1, x.2.1, x.2.2.1, x.2.2.2.1, x.2.2.2.2.1, x.2.2.2.2.2.1, x.2.2.2.2.2.2.1)) fun r5 => if (0 : Int) ≤ r5 then if r5 < (List.length x.2.2.2.2.1 : Int) then Zd (fun x10 => if (0 : Int) ≤ x10.2.1 then if x10.2.1 < (List.length x10.2.2.2.2.2.2.2.2.2.2.2.2.2.2.2 : Int) then Option.bind (yC (x10.2.2.2.1, x10.2.2.2.2.1, x10.2.2.2.2.2.1, x10.2.2.2.2.2.2.1, x10.2.2.2.2.2.2.2.1, x10.2.2.2.2.2.2.2.2.1, x10.2.2.2.2.2.2.2.2.2.2.2.1, x10.2.2.2.2.2.2.2.2.2.2.2.2.1, x10.2.2.2.2.2.2.2.2.2.2.2.2.2.1, x10.2.2.2.2.2.2.2.2.2.2.2.2.2.2.1, (List.set x10.2.2.2.2.2.2.2.2.2.2.2.2.2.2.2 (Int.toNat x10.2.1) ((ya x10.2.2.2.2.2.2.2.2.2.2.2.2.2.2.2 x10.2.1).1, (ya x10.2.2.2.2.2.2.2.2.2.2.2.2.2.2.2 x10.2.1).2.1, x10.1, (ya x10.2.2.2.2.2.2.2.2.2.2.2.2.2.2.2 x10.2.1).2.2.2)), x10.2.2.2.2.2.2.2.2.2.2.1, x10.2.2.1)) fun r11 => some r11 else none else none) (fun x12 => if (0 : Int) ≤ x12.2.1 then if x12.2.1 < (List.length x12.2.2.2.2.2.2.2.2.2.2.2.2.2.2.2 : Int) then Option.bind (yC (x12.2.2.2.1, x12.2.2.2.2.1, x12.2.2.2.2.2.1, x12.2.2.2.2.2.2.1, x12.2.2.2.2.2.2.2.1, x12.2.2.2.2.2.2.2.2.1, x12.2.2.2.2.2.2.2.2.2.2.1, x12.2.2.2.2.2.2.2.2.2.2.2.1, x12.2.2.2.2.2.2.2.2.2.2.2.2.1, x12.2.2.2.2.2.2.2.2.2.2.2.2.2.2.1, (List.set x12.2.2.2.2.2.2.2.2.2.2.2.2.2.2.2 (Int.toNat x12.2.1) ((ya x12.2.2.2.2.2.2.2.2.2.2.2.2.2.2.2 x12.2.1).1, (ya x12.2.2.2.2.2.2.2.2.2.2.2.2.2.2.2 x12.2.1).2.1, x12.1, (ya x12.2.2.2.2.2.2.2.2.2.2.2.2.2.2.2 x12.2.1).2.2.2)), x12.2.2.2.2.2.2.2.2.2.2.2.2.2.1, x12.2.2.1)) fun r13 => some r13 else none else none) (Sum.inl (x.2.2.2.2.2.2.2, r5, true, (Go.IntKind.wrap .i64 ((ya x.2.2.2.2.1 r5).2.2.1 - (1 : Int))), x.1, x.2.1, x.2.2.1, x.2.2.2.1, x.2.2.2.2.1, x.2.2.2.2.2.1, (0 : Int), r1.2.2.2.2.2, r1.1, r1.2.1, r1.2.2.1, r1.2.2.2.1, r1.2.2.2.2.1)) else none else none else bif (r2 != (0 : Int)) then some (r1.1, r1.2.1, r1.2.2.1, r1.2.2.2.1, r1.2.2.2.2.1, r1.2.2.2.2.2, r2) else Option.bind (zk (x.1, x.2.1, x.2.2.1, x.2.2.2.1, x.2.2.2.2.1, x.2.2.2.2.2.1, x.2.2.2.2.2.2.1)) fun r14 => if (0 : Int) ≤ r14 then if r14 < (List.length x.2.2.2.2.1 : Int) then Zd (fun x19 => if (0 : Int) ≤ x19.2.1 then if x19.2.1 < (List.length x19.2.2.2.2.2.2.2.2.2.2.2.2.2.2.2 : Int) then Option.bind (yC (x19.2.2.2.1, x19.2.2.2.2.1, x19.2.2.2.2.2.1, x19.2.2.2.2.2.2.1, x19.2.2.2.2.2.2.2.1, x19.2.2.2.2.2.2.2.2.1, x19.2.2.2.2.2.2.2.2.2.2.2.1, x19.2.2.2.2.2.2.2.2.2.2.2.2.1, x19.2.2.2.2.2.2.2.2.2.2.2.2.2.1, x19.2.2.2.2.2.2.2.2.2.2.2.2.2.2.1, (List.set x19.2.2.2.2.2.2.2.2.2.2.2.2.2.2.2 (Int.toNat x19.2.1) ((ya x19.2.2.2.2.2.2.2.2.2.2.2.2.2.2.2 x19.2.1).1, (ya x19.2.2.2.2.2.2.2.2.2.2.2.2.2.2.2 x19.2.1).2.1, x19.1, (ya x19.2.2.2.2.2.2.2.2.2.2.2.2.2.2.2 x19.2.1).2.2.2)), x19.2.2.2.2.2.2.2.2.2.2.1, x19.2.2.1)) fun r20 => some r20 else none else none) (fun x21 => if (0 : Int) ≤ x21.2.1 then if x21.2.1 < (List.length x21.2.2.2.2.2.2.2.2.2.2.2.2.2.2.2 : Int) then Option.bind (yC (x21.2.2.2.1, x21.2.2.2.2.1, x21.2.2.2.2.2.1, x21.2.2.2.2.2.2.1, x21.2.2.2.2.2.2.2.1, x21.2.2.2.2.2.2.2.2.1, x21.2.2.2.2.2.2.2.2.2.2.1, x21.2.2.2.2.2.2.2.2.2.2.2.1, x21.2.2.2.2.2.2.2.2.2.2.2.2.1, x21.2.2.2.2.2.2.2.2.2.2.2.2.2.2.1, (List.set x21.2.2.2.2.2.2.2.2.2.2.2.2.2.2.2 (Int.toNat x21.2.1) ((ya x21.2.2.2.2.2.2.2.2.2.2.2.2.2.2.2 x21.2.1).1, (ya x21.2.2.2.2.2.2.2.2.2.2.2.2.2.2.2 x21.2.1).2.1, x21.1, (ya x21.2.2.2.2.2.2.2.2.2.2.2.2.2.2.2 x21.2.1).2.2.2)), x21.2.2.2.2.2.2.2.2.2.2.2.2.2.1, x21.2.2.1)) fun r22 => some r22 else none else none) (Sum.inl (x.2.2.2.2.2.2.2, r14, true, (Go.IntKind.wrap .i64 ((ya x.2.2.2.2.1 r14).2.2.1 - (1 : Int))), x.1, x.2.1, x.2.2.1, x.2.2.2.1, x.2.2.2.2.1, x.2.2.2.2.2.1, (0 : Int), r1.2.2.2.2.2, r1.1, r1.2.1, r1.2.2.1, r1.2.2.2.1, r1.2.2.2.2.1)) else none else none
def yqj : List QF := [q77, y6t, yit, ylR, yup, yAd]
def y3p (t : ymj) : St := ⟨dd 2 (vI t.1 :: .box 3 0 :: dd 2 (.box 6 0 :: .dead :: .box 8 0 :: .dead :: vI t.2.1 :: vB t.2.2.1 :: vI t.2.2.2.1 :: dd 49 [])), [(3, .box [zj t.2.2.2.2.1, yJ t.2.2.2.2.2.1, zz t.2.2.2.2.2.2.1, z7 t.2.2.2.2.2.2.2.1, Yh t.2.2.2.2.2.2.2.2.1, vI t.2.2.2.2.2.2.2.2.2.1]), (6, .box [.nils, .nils, .nils, .nils, .nils, vI t.2.2.2.2.2.2.2.2.2.2.1]), (8, .box [.own 10000000, .own 10000001, .own 10000002, .own 10000003, .own 10000004, vI t.2.2.2.2.2.2.2.2.2.2.2.1]), (10000000, .root true 3 yf t.2.2.2.2.2.2.2.2.2.2.2.2.1), (10000001, .root true 84 yk t.2.2.2.2.2.2.2.2.2.2.2.2.2.1), (10000002, .root true 91 yl t.2.2.2.2.2.2.2.2.2.2.2.2.2.2.1), (10000003, .root true 79 yg t.2.2.2.2.2.2.2.2.2.2.2.2.2.2.2.1), (10000004, .root true 40 yK t.2.2.2.2.2.2.2.2.2.2.2.2.2.2.2.2)]⟩
theorem ygF : ∀ s t, unG yyv y3p s = some t → y3p t = s := yu fun t => by kernel_rfl
def y3q (t : ymk) : St := ⟨dd 2 (vI t.1 :: .box 3 0 :: dd 2 (.box 6 0 :: .dead :: .box 8 0 :: .dead :: vI t.2.1 :: vB t.2.2.1 :: vI t.2.2.2.1 :: dd 49 [])), [(3, .box [zj t.2.2.2.2.1, yJ t.2.2.2.2.2.1, zz t.2.2.2.2.2.2.1, z7 t.2.2.2.2.2.2.2.1, Yh t.2.2.2.2.2.2.2.2.1, vI t.2.2.2.2.2.2.2.2.2.1]), (6, .box [.nils, .nils, .nils, .nils, .nils, vI t.2.2.2.2.2.2.2.2.2.2.1]), (8, .box [zj t.2.2.2.2.2.2.2.2.2.2.2.1, yJ t.2.2.2.2.2.2.2.2.2.2.2.2.1, zz t.2.2.2.2.2.2.2.2.2.2.2.2.2.1, .own 10000000, .own 10000001, vI t.2.2.2.2.2.2.2.2.2.2.2.2.2.2.1]), (10000000, .root true 79 yg t.2.2.2.2.2.2.2.2.2.2.2.2.2.2.2.1), (10000001, .root true 40 yK t.2.2.2.2.2.2.2.2.2.2.2.2.2.2.2.2)]⟩
theorem ygG : ∀ s t, unG yyw y3q s = some t → y3q t = s := yu fun t => by kernel_rfl
def y3r : (ymj ⊕ ymk) → St := Sum.elim y3p y3q
def y74 (s : St) : Option (ymj ⊕ ymk) := ((unG yyv y3p s).map Sum.inl).or (((unG yyw y3q) s).map Sum.inr)
theorem ygH : ∀ s t, y74 s = some t → y3r t = s := y8C ygF ygG
def ybQ : Gk jO := fun κ => Ye (fun t => κ (some 0) ⟨dd 2 (vI t.1 :: .box 3 0 :: dd 2 (.box 6 0 :: .dead :: .box 8 0 :: .dead :: vI t.2.1 :: vB t.2.2.1 :: dd 50 [])), [(3, .box [zj t.2.2.2.1, yJ t.2.2.2.2.1, zz t.2.2.2.2.2.1, z7 t.2.2.2.2.2.2.1, Yh t.2.2.2.2.2.2.2.1, vI t.2.2.2.2.2.2.2.2.1]), (6, .box [.nils, .nils, .nils, .nils, .nils, vI t.2.2.2.2.2.2.2.2.2.1]), (8, .box [.own 10000000, .own 10000001, .own 10000002, .own 10000003, .own 10000004, vI t.2.2.2.2.2.2.2.2.2.2.1]), (10000000, .root true 3 yf t.2.2.2.2.2.2.2.2.2.2.2.1), (10000001, .root true 84 yk t.2.2.2.2.2.2.2.2.2.2.2.2.1), (10000002, .root true 91 yl t.2.2.2.2.2.2.2.2.2.2.2.2.2.1), (10000003, .root true 79 yg t.2.2.2.2.2.2.2.2.2.2.2.2.2.2.1), (10000004, .root true 40 yK t.2.2.2.2.2.2.2.2.2.2.2.2.2.2.2)]⟩) (fun t => κ (some 0) ⟨dd 2 (vI t.1 :: .box 3 0 :: dd 2 (.box 6 0 :: .dead :: .box 8 0 :: .dead :: vI t.2.1 :: vB t.2.2.1 :: dd 50 [])), [(3, .box [zj t.2.2.2.1, yJ t.2.2.2.2.1, zz t.2.2.2.2.2.1, z7 t.2.2.2.2.2.2.1, Yh t.2.2.2.2.2.2.2.1, vI t.2.2.2.2.2.2.2.2.1]), (6, .box [.nils, .nils, .nils, .nils, .nils, vI t.2.2.2.2.2.2.2.2.2.1]), (8, .box [zj t.2.2.2.2.2.2.2.2.2.2.1, yJ t.2.2.2.2.2.2.2.2.2.2.2.1, zz t.2.2.2.2.2.2.2.2.2.2.2.2.1, .own 10000000, .own 10000001, vI t.2.2.2.2.2.2.2.2.2.2.2.2.2.1]), (10000000, .root true 79 yg t.2.2.2.2.2.2.2.2.2.2.2.2.2.2.1), (10000001, .root true 40 yK t.2.2.2.2.2.2.2.2.2.2.2.2.2.2.2)]⟩)
def yqk : Lp := lpC 10 y74 @ybQ lpN
theorem ygI : LF yqj yqk 83 10 Tryz.f83 0 y3r @ybQ fun v : ymj => .inl v := fun R κ again v => by kernel_rfl
theorem ygJ : LF yqj yqk 83 10 Tryz.f83 0 y3r @ybQ fun v : ymk => .inr v := fun R κ again v => by kernel_rfl
theorem yql : LF yqj yqk 83 10 Tryz.f83 0 y3r @ybQ fun t => t := (LC.sum ygI ygJ)
theorem yqm : LK yqj yqk 83 Tryz.f83 0 := lkN (u := y74) ygH yql
theorem yBi : EV yqj yqk 83 Tryz.f83 yyT ymg y8I YW := fun x => by kernel_rfl
def q83 : QF := ⟨83, YW, okN (n := 1) Tryz.func83 ⟨yqm, trivial⟩ yBi⟩
def vN (x : ysQ) : Option yem :=
 Option.bind (w7 (x.2.2.1, x.2.2.2.2)) fun r1 => Option.bind (jy (x.1, x.2.1, x.2.2.2.1, r1)) fun r2 => some r2
theorem yuN : EV [yAa, yAb] lpN 188 Tryz.f188 yoD ysR yen vN := fun x => by kernel_rfl
def yBj : QF := ⟨188, vN, okN (n := 0) Tryz.func188 trivial yuN⟩
def vO (x : yAz) : Option Bool :=
 Option.bind (vN (x.1, x.2.1, x.2.2.1, x.2.2.2.1, x.2.2.2.2.2.2.2.2)) fun r1 => Option.bind (bif r1.2.2.2.2.2 then some (r1.2.1 == x.2.2.2.2.1) else some false) fun u2 => some u2
theorem yuO : EV [yBj] lpN 187 Tryz.f187 yoE yAA [.bool] vO := fun x => by kernel_rfl
def yBk : QF := ⟨187, vO, okN (n := 0) Tryz.func187 trivial yuO⟩
abbrev WJ : Type := yyx
def Zq (k0 : Bool → Option R) (k1 : Unit → Option R) (again : WJ → Option R) (t2 : WJ) : Option R :=
 bif (decide (t2.1 < (List.length t2.2.2.2.2.2.1 : Int))) then if (0 : Int) ≤ t2.1 then if t2.1 < (List.length t2.2.2.2.2.2.1 : Int) then Option.bind (bif (decide ((ya t2.2.2.2.2.2.1 t2.1).2.2.1 > t2.2.2.2.2.2.2.2.1)) then if (0 : Int) ≤ t2.1 then if t2.1 < (List.length t2.2.2.2.2.2.1 : Int) then Option.bind (vO (t2.2.1, t2.2.2.1, t2.2.2.2.1, t2.2.2.2.2.2.2.2.1, t2.2.2.2.2.2.2.2.2.1, t2.2.2.2.2.2.2.2.2.2.1, t2.2.2.2.2.2.2.2.2.2.2.1, t2.2.2.2.2.2.2.2.2.2.2.2, (ya t2.2.2.2.2.2.1 t2.1).2.1)) fun r2 => some r2 else none else none else some false) fun u1 => bif u1 then k0 true else again ((Go.IntKind.wrap .i64 (t2.1 + (1 : Int))), t2.2.1, t2.2.2.1, t2.2.2.2.1, t2.2.2.2.2.1, t2.2.2.2.2.2.1, t2.2.2.2.2.2.2.1, t2.2.2.2.2.2.2.2.1, t2.2.2.2.2.2.2.2.2.1, t2.2.2.2.2.2.2.2.2.2.1, t2.2.2.2.2.2.2.2.2.2.2.1, t2.2.2.2.2.2.2.2.2.2.2.2) else none else none else k1 ()
def Vr k0 k1 := zV (@Zq R k0 k1) Yg
def jP (x : ymh) : Option Bool :=
 Vr (fun x3 => some x3) (fun x4 => some false) ((0 : Int), x.1, x.2.1, x.2.2.1, x.2.2.2.1, x.2.2.2.2.1, x.2.2.2.2.2.1, x.2.2.2.2.2.2.1, x.2.2.2.2.2.2.2.1, x.2.2.2.2.2.2.2.2.1, x.2.2.2.2.2.2.2.2.2.1, x.2.2.2.2.2.2.2.2.2.2)
def ykC : List QF := [yBk]
def y75 (t : yyx) : St := ⟨dd 2 (.box 2 0 :: .box 3 0 :: .dead :: vI t.1 :: dd 30 []), [(2, .box [zj t.2.1, yJ t.2.2.1, zz t.2.2.2.1, z7 t.2.2.2.2.1, Yh t.2.2.2.2.2.1, vI t.2.2.2.2.2.2.1]), (3, .box [vI t.2.2.2.2.2.2.2.1, vI t.2.2.2.2.2.2.2.2.1, vI t.2.2.2.2.2.2.2.2.2.1, vI t.2.2.2.2.2.2.2.2.2.2.1, vI t.2.2.2.2.2.2.2.2.2.2.2])]⟩
def yiG : Gk WJ := fun κ => Zq (fun t => κ none ⟨dd 4 (vB t :: dd 31 []), []⟩) (fun t => κ (some 0) ⟨dd 36 [], []⟩)
def ykD : Lp := lpC 2 (unG yyy y75) @yiG lpN
theorem yqn : LF ykC ykD 184 2 Tryz.f184 0 y75 @yiG fun t => t := fun R κ again t => by kernel_rfl
theorem yqo : LK ykC ykD 184 Tryz.f184 0 := lkN (u := (unG yyy y75)) (yu fun t => by kernel_rfl) yqn
theorem yuP : EV ykC ykD 184 Tryz.f184 yoF ymi [.bool] jP := fun x => by kernel_rfl
def yBl : QF := ⟨184, jP, okN (n := 1) Tryz.func184 ⟨yqo, trivial⟩ yuP⟩
abbrev qK : Type := ysS
def WK (k0 : Bool → Option R) (k1 : Unit → Option R) (again : qK → Option R) (t2 : qK) : Option R :=
 bif (decide (t2.2.1 < (List.length t2.2.2.2.2.2.2.1 : Int))) then if (0 : Int) ≤ t2.2.1 then if t2.2.1 < (List.length t2.2.2.2.2.2.2.1 : Int) then bif ((ya t2.2.2.2.2.2.2.1 t2.2.1).2.1 == t2.1) then k0 false else again (t2.1, (Go.IntKind.wrap .i64 (t2.2.1 + (1 : Int))), t2.2.2.1, t2.2.2.2.1, t2.2.2.2.2.1, t2.2.2.2.2.2.1, t2.2.2.2.2.2.2.1, t2.2.2.2.2.2.2.2) else none else none else k1 ()
def y1F k0 k1 := zV (@WK R k0 k1) Yg
def kP (x : y8H) : Option Bool :=
 y1F (fun x1 => some x1) (fun x2 => some true) (x.2.2.2.2.2.2, (0 : Int), x.1, x.2.1, x.2.2.1, x.2.2.2.1, x.2.2.2.2.1, x.2.2.2.2.2.1)
def ykE : List QF := []
def y76 (t : ysS) : St := ⟨.dead :: vI t.1 :: .box 2 0 :: dd 2 (vI t.2.1 :: dd 15 []), [(2, .box [zj t.2.2.1, yJ t.2.2.2.1, zz t.2.2.2.2.1, z7 t.2.2.2.2.2.1, Yh t.2.2.2.2.2.2.1, vI t.2.2.2.2.2.2.2])]⟩
def yiH : Gk qK := fun κ => WK (fun t => κ none ⟨dd 4 (vB t :: dd 16 []), []⟩) (fun t => κ (some 0) ⟨dd 21 [], []⟩)
def ykF : Lp := lpC 2 (unG yyz y76) @yiH lpN
theorem yqp : LF ykE ykF 172 2 Tryz.f172 0 y76 @yiH fun t => t := fun R κ again t => by kernel_rfl
theorem yqq : LK ykE ykF 172 Tryz.f172 0 := lkN (u := (unG yyz y76)) (yu fun t => by kernel_rfl) yqp
theorem yuQ : EV ykE ykF 172 Tryz.f172 yoG y8I [.bool] kP := fun x => by kernel_rfl
def yAe : QF := ⟨172, kP, okN (n := 1) Tryz.func172 ⟨yqq, trivial⟩ yuQ⟩
def Zr (x : y8H) : Option Int :=
 Option.bind (jt (x.2.2.1, x.2.2.2.2.2.2)) fun r1 => Option.bind (kP x) fun r2 => Option.bind (bif (!r2) then some true else some ((List.length r1 : Int) != (1 : Int))) fun u3 => bif u3 then some (0 : Int) else if (0 : Int) ≤ (0 : Int) then if (0 : Int) < (List.length r1 : Int) then some (zw r1 (0 : Int)) else none else none
theorem yuR : EV [yu3, yAe] lpN 149 Tryz.f149 yoH y8I [(.int .i64)] Zr := fun x => by kernel_rfl
def yAf : QF := ⟨149, Zr, okN (n := 0) Tryz.func149 trivial yuR⟩
def Kj (x : ymh) : Option Bool :=
 Option.bind (Zr (x.1, x.2.1, x.2.2.1, x.2.2.2.1, x.2.2.2.2.1, x.2.2.2.2.2.1, x.2.2.2.2.2.2.2.1)) fun r1 => bif (r1 == (0 : Int)) then some false else Option.bind (jx (x.1, x.2.1, x.2.2.2.2.2.2.1, r1)) fun r2 => some (!r2.2.2.2.2.2)
theorem yuS : EV [yuv, yAf] lpN 185 Tryz.f185 yoI ymi [.bool] Kj := fun x => by kernel_rfl
def yBm : QF := ⟨185, Kj, okN (n := 0) Tryz.func185 trivial yuS⟩
def WL (x : yAB) : Option Bool :=
 bif (x.2.2.2.2.2.2.1 == (1 : Int)) then Option.bind (jP (x.1, x.2.1, x.2.2.1, x.2.2.2.1, x.2.2.2.2.1, x.2.2.2.2.2.1, x.2.2.2.2.2.2.2)) fun r1 => some (!r1) else bif (x.2.2.2.2.2.2.1 == (2 : Int)) then Option.bind (Zc (x.1, x.2.1, x.2.2.1, x.2.2.2.2.2.2.2.1, x.2.2.2.2.2.2.2.2.1)) fun r2 => Option.bind (bif (x.2.2.2.2.2.2.2.2.2.1 == (2 : Int)) then some (!r2.2.2.2.2.2) else some false) fun u3 => some u3 else Option.bind (Kj (x.1, x.2.1, x.2.2.1, x.2.2.2.1, x.2.2.2.2.1, x.2.2.2.2.2.1, x.2.2.2.2.2.2.2)) fun r4 => some r4
theorem yuT : EV [yAc, yBl, yBm] lpN 170 Tryz.f170 yoJ yAC [.bool] WL := fun x => by kernel_rfl
def yBn : QF := ⟨170, WL, okN (n := 0) Tryz.func170 trivial yuT⟩
abbrev vP : Type := yjs
def Jr (k0 : yAD → Option R) (k1 : yfD → Option R) (again : vP → Option R) (t3 : vP) : Option R :=
 bif (decide (t3.2.1 < (List.length t3.2.2.2.2.2.2.2.2 : Int))) then if (0 : Int) ≤ t3.2.1 then if t3.2.1 < (List.length t3.2.2.2.2.2.2.2.2 : Int) then bif ((y6 t3.2.2.2.2.2.2.2.2 t3.2.1).2.1 == t3.1) then k0 (t3.1, false, t3.2.2.1, t3.2.2.2.1, t3.2.2.2.2.1, t3.2.2.2.2.2.1, t3.2.2.2.2.2.2.1, t3.2.2.2.2.2.2.2.1) else again (t3.1, (Go.IntKind.wrap .i64 (t3.2.1 + (1 : Int))), t3.2.2.1, t3.2.2.2.1, t3.2.2.2.2.1, t3.2.2.2.2.2.1, t3.2.2.2.2.2.2.1, t3.2.2.2.2.2.2.2.1, t3.2.2.2.2.2.2.2.2) else none else none else k1 (t3.1, t3.2.2.1, t3.2.2.2.1, t3.2.2.2.2.1, t3.2.2.2.2.2.1, t3.2.2.2.2.2.2.1, t3.2.2.2.2.2.2.2.1)
def QL k0 k1 := zV (@Jr R k0 k1) Yg
def WM (x : y8H) : Option Bool :=
 Option.bind (yN (x.1, x.2.1)) fun r1 => QL (fun x2 => some x2.2.1) (fun x3 => Option.bind (kP (x3.2.1, x3.2.2.1, x3.2.2.2.1, x3.2.2.2.2.1, x3.2.2.2.2.2.1, x3.2.2.2.2.2.2, x3.1)) fun r4 => Option.bind (bif r4 then Option.bind (jt (x3.2.2.2.1, x3.1)) fun r6 => some (decide ((List.length r6 : Int) ≤ (1 : Int))) else some false) fun u5 => some u5) (x.2.2.2.2.2.2, (0 : Int), x.1, x.2.1, x.2.2.1, x.2.2.2.1, x.2.2.2.2.1, x.2.2.2.2.2.1, r1)
def ykG : List QF := [yjX, yu3, yAe]
def y77 (t : yjs) : St := ⟨.dead :: vI t.1 :: .box 2 0 :: dd 2 (.own 10000000 :: vI t.2.1 :: dd 27 []), [(2, .box [zj t.2.2.1, yJ t.2.2.2.1, zz t.2.2.2.2.1, z7 t.2.2.2.2.2.1, Yh t.2.2.2.2.2.2.1, vI t.2.2.2.2.2.2.2.1]), (10000000, .root true 81 yh t.2.2.2.2.2.2.2.2)]⟩
def yiI : Gk vP := fun κ => Jr (fun t => κ none ⟨.dead :: vI t.1 :: .box 2 0 :: .dead :: vB t.2.1 :: dd 29 [], [(2, .box [zj t.2.2.1, yJ t.2.2.2.1, zz t.2.2.2.2.1, z7 t.2.2.2.2.2.1, Yh t.2.2.2.2.2.2.1, vI t.2.2.2.2.2.2.2])]⟩) (fun t => κ (some 0) ⟨.dead :: vI t.1 :: .box 2 0 :: dd 31 [], [(2, .box [zj t.2.1, yJ t.2.2.1, zz t.2.2.2.1, z7 t.2.2.2.2.1, Yh t.2.2.2.2.2.1, vI t.2.2.2.2.2.2])]⟩)
def ykH : Lp := lpC 3 (unG ylP y77) @yiI lpN
theorem yqr : LF ykG ykH 171 3 Tryz.f171 0 y77 @yiI fun t => t := fun R κ again t => by kernel_rfl
theorem yqs : LK ykG ykH 171 Tryz.f171 0 := lkN (u := (unG ylP y77)) (yu fun t => by kernel_rfl) yqr
theorem yuU : EV ykG ykH 171 Tryz.f171 yoK y8I [.bool] WM := fun x => by kernel_rfl
def yBo : QF := ⟨171, WM, okN (n := 1) Tryz.func171 ⟨yqs, trivial⟩ yuU⟩
abbrev kQ : Type := yjs
def ZW (k0 : ysK → Option R) (k1 : yjw → Option R) (again : kQ → Option R) (t8 : kQ) : Option R :=
 bif (decide (t8.2.1 < (List.length t8.2.2.2.2.2.2.2.2 : Int))) then if (0 : Int) ≤ t8.2.1 then if t8.2.1 < (List.length t8.2.2.2.2.2.2.2.2 : Int) then Option.bind (WL (t8.2.2.1, t8.2.2.2.1, t8.2.2.2.2.1, t8.2.2.2.2.2.1, t8.2.2.2.2.2.2.1, t8.2.2.2.2.2.2.2.1, t8.1, (y6 t8.2.2.2.2.2.2.2.2 t8.2.1).1, (y6 t8.2.2.2.2.2.2.2.2 t8.2.1).2.1, (y6 t8.2.2.2.2.2.2.2.2 t8.2.1).2.2.1, (y6 t8.2.2.2.2.2.2.2.2 t8.2.1).2.2.2.1, (y6 t8.2.2.2.2.2.2.2.2 t8.2.1).2.2.2.2)) fun r3 => bif r3 then k0 (t8.1, t8.2.1, t8.1, t8.2.2) else again (t8.1, (Go.IntKind.wrap .i64 (t8.2.1 + (1 : Int))), t8.2.2.1, t8.2.2.2.1, t8.2.2.2.2.1, t8.2.2.2.2.2.1, t8.2.2.2.2.2.2.1, t8.2.2.2.2.2.2.2.1, t8.2.2.2.2.2.2.2.2) else none else none else k1 (t8.1, t8.2.2)
def qc k0 k1 := zV (@ZW R k0 k1) Yg
abbrev kR : Type := yjw
def ZX (k0 : ysS → Option R) (k1 : Qz9 → Option R) (again : kR → Option R) (t5 : kR) : Option R :=
 bif (decide (t5.1 ≤ (3 : Int))) then qc (fun x4 => k0 (x4.1, x4.2.1, x4.2.2.2.1, x4.2.2.2.2.1, x4.2.2.2.2.2.1, x4.2.2.2.2.2.2.1, x4.2.2.2.2.2.2.2.1, x4.2.2.2.2.2.2.2.2.1)) (fun x5 => again ((Go.IntKind.wrap .i64 (x5.1 + (1 : Int))), x5.2.1, x5.2.2.1, x5.2.2.2.1, x5.2.2.2.2.1, x5.2.2.2.2.2.1, x5.2.2.2.2.2.2.1, x5.2.2.2.2.2.2.2)) (t5.1, (0 : Int), t5.2.1, t5.2.2.1, t5.2.2.2.1, t5.2.2.2.2.1, t5.2.2.2.2.2.1, t5.2.2.2.2.2.2.1, t5.2.2.2.2.2.2.2) else k1 (t5.2.1, t5.2.2.1, t5.2.2.2.1, t5.2.2.2.2.1, t5.2.2.2.2.2.1, t5.2.2.2.2.2.2.1)
def qd k0 k1 := zV (@ZX R k0 k1) Yg
abbrev WN : Type := yfD
def Zs (k0 : yi5 → Option R) (k1 : Unit → Option R) (again : WN → Option R) (t13 : WN) : Option R :=
 bif (decide (t13.1 < (List.length t13.2.2.2.1 : Int))) then if (0 : Int) ≤ t13.1 then if t13.1 < (List.length t13.2.2.2.1 : Int) then Option.bind (WM (t13.2.1, t13.2.2.1, t13.2.2.2.1, t13.2.2.2.2.1, t13.2.2.2.2.2.1, t13.2.2.2.2.2.2, (yM t13.2.2.2.1 t13.1).1)) fun r8 => bif r8 then k0 ((4 : Int), t13.1) else again ((Go.IntKind.wrap .i64 (t13.1 + (1 : Int))), t13.2.1, t13.2.2.1, t13.2.2.2.1, t13.2.2.2.2.1, t13.2.2.2.2.2.1, t13.2.2.2.2.2.2) else none else none else k1 ()
def Vs k0 k1 := zV (@Zs R k0 k1) Yg
def Js (x : Qz9) : Option yi5 :=
 Option.bind (yH x) fun r1 => bif (!r1) then some ((0 : Int), (0 : Int)) else Option.bind (yN (x.1, x.2.1)) fun r2 => qd (fun x6 => some (x6.1, x6.2.1)) (fun x7 => Vs (fun x9 => some x9) (fun x10 => some ((0 : Int), (0 : Int))) ((0 : Int), x7.1, x7.2.1, x7.2.2.1, x7.2.2.2.1, x7.2.2.2.2.1, x7.2.2.2.2.2)) ((1 : Int), x.1, x.2.1, x.2.2.1, x.2.2.2.1, x.2.2.2.2.1, x.2.2.2.2.2, r2)
def yad : List QF := [q76, yjX, yBn, yBo]
def y78 (t : yjs) : St := ⟨.dead :: .box 1 0 :: dd 2 (.own 10000000 :: vI t.1 :: vI t.2.1 :: dd 42 []), [(1, .box [zj t.2.2.1, yJ t.2.2.2.1, zz t.2.2.2.2.1, z7 t.2.2.2.2.2.1, Yh t.2.2.2.2.2.2.1, vI t.2.2.2.2.2.2.2.1]), (10000000, .root true 81 yh t.2.2.2.2.2.2.2.2)]⟩
def yiJ : Gk kQ := fun κ => ZW (fun t => κ none ⟨.dead :: .box 1 0 :: vI t.1 :: vI t.2.1 :: .own 10000000 :: vI t.2.2.1 :: dd 43 [], [(1, .box [zj t.2.2.2.1, yJ t.2.2.2.2.1, zz t.2.2.2.2.2.1, z7 t.2.2.2.2.2.2.1, Yh t.2.2.2.2.2.2.2.1, vI t.2.2.2.2.2.2.2.2.1]), (10000000, .root true 81 yh t.2.2.2.2.2.2.2.2.2)]⟩) (fun t => κ (some 2) ⟨.dead :: .box 1 0 :: dd 2 (.own 10000000 :: vI t.1 :: dd 43 []), [(1, .box [zj t.2.1, yJ t.2.2.1, zz t.2.2.2.1, z7 t.2.2.2.2.1, Yh t.2.2.2.2.2.1, vI t.2.2.2.2.2.2.1]), (10000000, .root true 81 yh t.2.2.2.2.2.2.2)]⟩)
def y79 (t : yjw) : St := ⟨.dead :: .box 1 0 :: dd 2 (.own 10000000 :: vI t.1 :: dd 43 []), [(1, .box [zj t.2.1, yJ t.2.2.1, zz t.2.2.2.1, z7 t.2.2.2.2.1, Yh t.2.2.2.2.2.1, vI t.2.2.2.2.2.2.1]), (10000000, .root true 81 yh t.2.2.2.2.2.2.2)]⟩
def yiK : Gk kR := fun κ => ZX (fun t => κ none ⟨.dead :: .box 1 0 :: vI t.1 :: vI t.2.1 :: dd 45 [], [(1, .box [zj t.2.2.1, yJ t.2.2.2.1, zz t.2.2.2.2.1, z7 t.2.2.2.2.2.1, Yh t.2.2.2.2.2.2.1, vI t.2.2.2.2.2.2.2])]⟩) (fun t => κ (some 0) ⟨.dead :: .box 1 0 :: dd 47 [], [(1, .box [zj t.1, yJ t.2.1, zz t.2.2.1, z7 t.2.2.2.1, Yh t.2.2.2.2.1, vI t.2.2.2.2.2])]⟩)
def y4b (t : yfD) : St := ⟨.dead :: .box 1 0 :: dd 5 (vI t.1 :: dd 41 []), [(1, .box [zj t.2.1, yJ t.2.2.1, zz t.2.2.2.1, z7 t.2.2.2.2.1, Yh t.2.2.2.2.2.1, vI t.2.2.2.2.2.2])]⟩
def yeK : Gk WN := fun κ => Zs (fun t => κ none ⟨dd 2 (vI t.1 :: vI t.2 :: dd 45 []), []⟩) (fun t => κ (some 4) ⟨dd 49 [], []⟩)
def yae : Lp := lpC 13 (unG ylM y4b) @yeK (lpC 5 (unG yml y79) @yiK (lpC 8 (unG ylP y78) @yiJ lpN))
theorem yqt : LF yad yae 147 8 Tryz.f147 1 y78 @yiJ fun t => t := fun R κ again t => by kernel_rfl
theorem yqu : LK yad yae 147 Tryz.f147 1 := lkN (u := (unG ylP y78)) (yu fun t => by kernel_rfl) yqt
theorem yqv : LF yad yae 147 5 Tryz.f147 0 y79 @yiK fun t => t := fun R κ again t => by kernel_rfl
theorem yqw : LK yad yae 147 Tryz.f147 0 := lkN (u := (unG yml y79)) (yu fun t => by kernel_rfl) yqv
theorem ykI : LF yad yae 147 13 Tryz.f147 2 y4b @yeK fun t => t := fun R κ again t => by kernel_rfl
theorem ykJ : LK yad yae 147 Tryz.f147 2 := lkN (u := (unG ylM y4b)) (yu fun t => by kernel_rfl) ykI
theorem yuV : EV yad yae 147 Tryz.f147 yoL qz9 yjr Js := fun x => by kernel_rfl
def yBp : QF := ⟨147, Js, okN (n := 3) Tryz.func147 ⟨yqw, yqu, ykJ, trivial⟩ yuV⟩
def ZL (x : ymh) : Option yi6 :=
 Option.bind (zx (x.1, x.2.1, x.2.2.1, x.2.2.2.1, x.2.2.2.2.1, x.2.2.2.2.2.1, x.2.2.2.2.2.2.1, x.2.2.2.2.2.2.2.1, (0 : Int), (0 : Int), (0 : Int))) fun r1 => some r1
theorem yuW : EV [yuG] lpN 148 Tryz.f148 yoM ymi ys6 ZL := fun x => by kernel_rfl
def yBq : QF := ⟨148, ZL, okN (n := 0) Tryz.func148 trivial yuW⟩
abbrev vQ : Type := ymm
def WO (k0 : List y9 → Option R) (again : vQ → Option R) (t6 : vQ) : Option R :=
 bif (decide (t6.2.2.2.1 < (List.length t6.1 : Int))) then if (0 : Int) ≤ t6.2.2.2.1 then if t6.2.2.2.1 < (List.length t6.1 : Int) then bif ((yM t6.1 t6.2.2.2.1).2 == t6.2.1) then if (0 : Int) ≤ t6.2.2.1 then if t6.2.2.1 < (List.length t6.1 : Int) then bif (t6.2.2.2.1 != t6.2.2.1) then if (List.length t6.2.2.2.2 + List.length ([((yM t6.1 t6.2.2.2.1).1, (yM t6.1 t6.2.2.1).2)] : List y9)) * 16 < 140737488355328 then again (t6.1, t6.2.1, t6.2.2.1, (Go.IntKind.wrap .i64 (t6.2.2.2.1 + (1 : Int))), (t6.2.2.2.2 ++ ([((yM t6.1 t6.2.2.2.1).1, (yM t6.1 t6.2.2.1).2)] : List y9))) else none else again (t6.1, t6.2.1, t6.2.2.1, (Go.IntKind.wrap .i64 (t6.2.2.2.1 + (1 : Int))), t6.2.2.2.2) else none else none else bif (t6.2.2.2.1 != t6.2.2.1) then if (List.length t6.2.2.2.2 + List.length ([((yM t6.1 t6.2.2.2.1).1, (yM t6.1 t6.2.2.2.1).2)] : List y9)) * 16 < 140737488355328 then again (t6.1, t6.2.1, t6.2.2.1, (Go.IntKind.wrap .i64 (t6.2.2.2.1 + (1 : Int))), (t6.2.2.2.2 ++ ([((yM t6.1 t6.2.2.2.1).1, (yM t6.1 t6.2.2.2.1).2)] : List y9))) else none else again (t6.1, t6.2.1, t6.2.2.1, (Go.IntKind.wrap .i64 (t6.2.2.2.1 + (1 : Int))), t6.2.2.2.2) else none else none else k0 t6.2.2.2.2
def QM k0 := zV (@WO R k0) Yg
def w8 (x : yfB) : Option ymb :=
 Option.bind (zP x) fun r1 => Option.bind (bif (decide (r1 < (0 : Int))) then some true else Option.bind (Zk x.1) fun r3 => some (!r3)) fun u2 => bif u2 then if (List.length ([] : List y9) + List.length x.1) * 16 < 140737488355328 then some ((([] : List y9) ++ x.1), false) else none else QM (fun x4 => some (x4, true)) (x.1, x.2, r1, (0 : Int), ([] : List y9))
def ykK : List QF := [ytZ, ylQ]
def y7a (t : ymm) : St := ⟨zz t.1 :: vI t.2.1 :: dd 4 (vI t.2.2.1 :: .own 10000000 :: vI t.2.2.2.1 :: dd 43 []), [(10000000, .root true 91 yl t.2.2.2.2)]⟩
def yiL : Gk vQ := fun κ => WO (fun t => κ (some 0) ⟨dd 7 (.own 10000000 :: dd 44 []), [(10000000, .root true 91 yl t)]⟩)
def ykL : Lp := lpC 6 (unG ymn y7a) @yiL lpN
theorem yqx : LF ykK ykL 150 6 Tryz.f150 0 y7a @yiL fun t => t := fun R κ again t => by kernel_rfl
theorem yqy : LK ykK ykL 150 Tryz.f150 0 := lkN (u := (unG ymn y7a)) (yu fun t => by kernel_rfl) yqx
theorem yuX : EV ykK ykL 150 Tryz.f150 yoN yfC ysI w8 := fun x => by kernel_rfl
def yBr : QF := ⟨150, w8, okN (n := 1) Tryz.func150 ⟨yqy, trivial⟩ yuX⟩
def zq (x : Qz9) : Option ygl :=
 Option.bind (yj x) fun r1 => Option.bind (Js x) fun r2 => Option.bind (yN (x.1, x.2.1)) fun r3 => bif (r2.1 == (1 : Int)) then bif (r2.1 == (1 : Int)) then if (0 : Int) ≤ r2.2 then if r2.2 < (List.length r3 : Int) then Option.bind (ZL (r1.1, r1.2.1, r1.2.2.1, r1.2.2.2.1, r1.2.2.2.2.1, r1.2.2.2.2.2, (y6 r3 r2.2).1, (y6 r3 r2.2).2.1, (y6 r3 r2.2).2.2.1, (y6 r3 r2.2).2.2.2.1, (y6 r3 r2.2).2.2.2.2)) fun r4 => Option.bind (bif (!r4.1) then some true else Option.bind (yH r4.2) fun r6 => some (!r6)) fun u5 => bif u5 then Option.bind (yj x) fun r7 => some (r7.1, r7.2.1, r7.2.2.1, r7.2.2.2.1, r7.2.2.2.2.1, r7.2.2.2.2.2, false) else some (r4.2.1, r4.2.2.1, r4.2.2.2.1, r4.2.2.2.2.1, r4.2.2.2.2.2.1, r4.2.2.2.2.2.2, true) else none else none else bif (r2.1 == (3 : Int)) then if (0 : Int) ≤ r2.2 then if r2.2 < (List.length r3 : Int) then Option.bind (Y3 (r1.1, r1.2.1, (y6 r3 r2.2).1, (y6 r3 r2.2).2.1, (0 : Int), (0 : Int), (0 : Int))) fun r8 => Option.bind (Zr (x.1, x.2.1, x.2.2.1, x.2.2.2.1, x.2.2.2.2.1, x.2.2.2.2.2, (y6 r3 r2.2).2.1)) fun r9 => Option.bind (Y3 (r8.1, r8.2.1, (y6 r3 r2.2).1, r9, (y6 r3 r2.2).2.2.1, (y6 r3 r2.2).2.2.2.1, (y6 r3 r2.2).2.2.2.2)) fun r10 => Option.bind (bif r8.2.2 then some r10.2.2 else some false) fun u11 => Option.bind (bif (!u11) then some true else Option.bind (yH (r10.1, r10.2.1, r1.2.2)) fun r13 => some (!r13)) fun u12 => bif u12 then Option.bind (yj x) fun r14 => some (r14.1, r14.2.1, r14.2.2.1, r14.2.2.2.1, r14.2.2.2.2.1, r14.2.2.2.2.2, false) else some (r10.1, r10.2.1, r1.2.2.1, r1.2.2.2.1, r1.2.2.2.2.1, r1.2.2.2.2.2, true) else none else none else bif (r2.1 == (4 : Int)) then if (0 : Int) ≤ r2.2 then if r2.2 < (List.length x.2.2.1 : Int) then Option.bind (w8 (x.2.2.1, (yM x.2.2.1 r2.2).1)) fun r15 => Option.bind (bif (!r15.2) then some true else Option.bind (yH (r1.1, r1.2.1, r15.1, r1.2.2.2)) fun r17 => some (!r17)) fun u16 => bif u16 then Option.bind (yj x) fun r18 => some (r18.1, r18.2.1, r18.2.2.1, r18.2.2.2.1, r18.2.2.2.2.1, r18.2.2.2.2.2, false) else some (r1.1, r1.2.1, r15.1, r1.2.2.2.1, r1.2.2.2.2.1, r1.2.2.2.2.2, true) else none else none else Option.bind (bif (!(r2.1 != (0 : Int))) then some true else Option.bind (yH r1) fun r20 => some (!r20)) fun u19 => bif u19 then Option.bind (yj x) fun r21 => some (r21.1, r21.2.1, r21.2.2.1, r21.2.2.2.1, r21.2.2.2.2.1, r21.2.2.2.2.2, false) else some (r1.1, r1.2.1, r1.2.2.1, r1.2.2.2.1, r1.2.2.2.2.1, r1.2.2.2.2.2, true) else bif (r2.1 == (2 : Int)) then if (0 : Int) ≤ r2.2 then if r2.2 < (List.length r3 : Int) then Option.bind (ZL (r1.1, r1.2.1, r1.2.2.1, r1.2.2.2.1, r1.2.2.2.2.1, r1.2.2.2.2.2, (y6 r3 r2.2).1, (y6 r3 r2.2).2.1, (y6 r3 r2.2).2.2.1, (y6 r3 r2.2).2.2.2.1, (y6 r3 r2.2).2.2.2.2)) fun r22 => Option.bind (bif (!r22.1) then some true else Option.bind (yH r22.2) fun r24 => some (!r24)) fun u23 => bif u23 then Option.bind (yj x) fun r25 => some (r25.1, r25.2.1, r25.2.2.1, r25.2.2.2.1, r25.2.2.2.2.1, r25.2.2.2.2.2, false) else some (r22.2.1, r22.2.2.1, r22.2.2.2.1, r22.2.2.2.2.1, r22.2.2.2.2.2.1, r22.2.2.2.2.2.2, true) else none else none else bif (r2.1 == (3 : Int)) then if (0 : Int) ≤ r2.2 then if r2.2 < (List.length r3 : Int) then Option.bind (Y3 (r1.1, r1.2.1, (y6 r3 r2.2).1, (y6 r3 r2.2).2.1, (0 : Int), (0 : Int), (0 : Int))) fun r26 => Option.bind (Zr (x.1, x.2.1, x.2.2.1, x.2.2.2.1, x.2.2.2.2.1, x.2.2.2.2.2, (y6 r3 r2.2).2.1)) fun r27 => Option.bind (Y3 (r26.1, r26.2.1, (y6 r3 r2.2).1, r27, (y6 r3 r2.2).2.2.1, (y6 r3 r2.2).2.2.2.1, (y6 r3 r2.2).2.2.2.2)) fun r28 => Option.bind (bif r26.2.2 then some r28.2.2 else some false) fun u29 => Option.bind (bif (!u29) then some true else Option.bind (yH (r28.1, r28.2.1, r1.2.2)) fun r31 => some (!r31)) fun u30 => bif u30 then Option.bind (yj x) fun r32 => some (r32.1, r32.2.1, r32.2.2.1, r32.2.2.2.1, r32.2.2.2.2.1, r32.2.2.2.2.2, false) else some (r28.1, r28.2.1, r1.2.2.1, r1.2.2.2.1, r1.2.2.2.2.1, r1.2.2.2.2.2, true) else none else none else bif (r2.1 == (4 : Int)) then if (0 : Int) ≤ r2.2 then if r2.2 < (List.length x.2.2.1 : Int) then Option.bind (w8 (x.2.2.1, (yM x.2.2.1 r2.2).1)) fun r33 => Option.bind (bif (!r33.2) then some true else Option.bind (yH (r1.1, r1.2.1, r33.1, r1.2.2.2)) fun r35 => some (!r35)) fun u34 => bif u34 then Option.bind (yj x) fun r36 => some (r36.1, r36.2.1, r36.2.2.1, r36.2.2.2.1, r36.2.2.2.2.1, r36.2.2.2.2.2, false) else some (r1.1, r1.2.1, r33.1, r1.2.2.2.1, r1.2.2.2.2.1, r1.2.2.2.2.2, true) else none else none else Option.bind (bif (!(r2.1 != (0 : Int))) then some true else Option.bind (yH r1) fun r38 => some (!r38)) fun u37 => bif u37 then Option.bind (yj x) fun r39 => some (r39.1, r39.2.1, r39.2.2.1, r39.2.2.2.1, r39.2.2.2.2.1, r39.2.2.2.2.2, false) else some (r1.1, r1.2.1, r1.2.2.1, r1.2.2.2.1, r1.2.2.2.2.1, r1.2.2.2.2.2, true)
theorem yuY : EV [q76, q77, yjX, yuC, yBp, yBq, yAf, yBr] lpN 127 Tryz.f127 yoO qz9 ygm zq := fun x => by kernel_rfl
def yBs : QF := ⟨127, zq, okN (n := 0) Tryz.func127 trivial yuY⟩
def WP (x : List yb) : Option (List yb) :=
 Option.bind (yA x) fun r1 => Option.bind (yV r1) fun r2 => some r2
theorem yuZ : EV [yjU, ysj] lpN 173 Tryz.f173 yoP [(.sl 53 yr)] [(.sl 53 yr)] WP := fun x => by kernel_rfl
def yBt : QF := ⟨173, WP, okN (n := 0) Tryz.func173 trivial yuZ⟩
def Jt (x : ym9) : Option Qz8 :=
 Option.bind (Zm (x.1, x.2.1)) fun r1 => Option.bind (yz (x.2.2, (0 : Int), (Go.IntKind.wrap .i64 ((List.length x.2.1 : Int) - (1 : Int))))) fun r2 => bif r2 then if (0 : Int) ≤ x.2.2 then if x.2.2 < (List.length x.2.1 : Int) then Option.bind (WP (ye x.2.1 x.2.2)) fun r3 => if (0 : Int) ≤ x.2.2 then if x.2.2 < (List.length r1.2 : Int) then some (r1.1, (List.set r1.2 (Int.toNat x.2.2) r3)) else none else none else none else none else some r1
theorem yv0 : EV [y6t, yue, yBt] lpN 151 Tryz.f151 yoQ yma qz8 Jt := fun x => by kernel_rfl
def yBu : QF := ⟨151, Jt, okN (n := 0) Tryz.func151 trivial yv0⟩
def zB (x : y8H) : Option ygl :=
 Option.bind (yj (x.1, x.2.1, x.2.2.1, x.2.2.2.1, x.2.2.2.2.1, x.2.2.2.2.2.1)) fun r1 => Option.bind (yH (x.1, x.2.1, x.2.2.1, x.2.2.2.1, x.2.2.2.2.1, x.2.2.2.2.2.1)) fun r2 => Option.bind (bif (!r2) then some true else Option.bind (yz (x.2.2.2.2.2.2, (0 : Int), (Go.IntKind.wrap .i64 ((List.length x.2.1 : Int) - (1 : Int))))) fun r4 => some (!r4)) fun u3 => bif u3 then some (r1.1, r1.2.1, r1.2.2.1, r1.2.2.2.1, r1.2.2.2.2.1, r1.2.2.2.2.2, false) else Option.bind (Jt (x.1, x.2.1, x.2.2.2.2.2.2)) fun r5 => some (r5.1, r5.2, r1.2.2.1, r1.2.2.2.1, r1.2.2.2.2.1, r1.2.2.2.2.2, true)
theorem yv1 : EV [q76, q77, y6t, yBu] lpN 128 Tryz.f128 yoR y8I ygm zB := fun x => by kernel_rfl
def yBv : QF := ⟨128, zB, okN (n := 0) Tryz.func128 trivial yv1⟩
abbrev vR : Type := ymo
def Ju (k0 : yfz → Option R) (k1 : yfz → Option R) (again : vR → Option R) (t3 : vR) : Option R :=
 bif (decide (t3.2.1 < (List.length t3.2.2.2.2.2.2.2 : Int))) then if (0 : Int) ≤ t3.2.1 then if t3.2.1 < (List.length t3.2.2.2.2.2.2.2 : Int) then Option.bind (bif ((y6 t3.2.2.2.2.2.2.2 t3.2.1).2.2.1 == (1 : Int)) then if (0 : Int) ≤ t3.2.1 then if t3.2.1 < (List.length t3.2.2.2.2.2.2.2 : Int) then some ((y6 t3.2.2.2.2.2.2.2 t3.2.1).2.2.2.1 == t3.1) else none else none else some false) fun u2 => bif u2 then if (0 : Int) ≤ t3.2.1 then if t3.2.1 < (List.length t3.2.2.2.2.2.2.2 : Int) then k0 ((y6 t3.2.2.2.2.2.2.2 t3.2.1).1, (y6 t3.2.2.2.2.2.2.2 t3.2.1).2.1, (y6 t3.2.2.2.2.2.2.2 t3.2.1).2.2.1, (y6 t3.2.2.2.2.2.2.2 t3.2.1).2.2.2.1, (y6 t3.2.2.2.2.2.2.2 t3.2.1).2.2.2.2) else none else none else again (t3.1, (Go.IntKind.wrap .i64 (t3.2.1 + (1 : Int))), t3.2.2.1, t3.2.2.2.1, t3.2.2.2.2.1, t3.2.2.2.2.2.1, t3.2.2.2.2.2.2.1, t3.2.2.2.2.2.2.2) else none else none else k1 (t3.2.2.1, t3.2.2.2.1, t3.2.2.2.2.1, t3.2.2.2.2.2.1, t3.2.2.2.2.2.2.1)
def QN k0 k1 := zV (@Ju R k0 k1) Yg
def WQ (x : y8H) : Option yfz :=
 Option.bind (yN (x.1, x.2.1)) fun r1 => QN (fun x3 => some x3) (fun x4 => some ((0 : Int), (0 : Int), (0 : Int), (0 : Int), (0 : Int))) (x.2.2.2.2.2.2, (0 : Int), (0 : Int), (0 : Int), (0 : Int), (0 : Int), (0 : Int), r1)
def ykM : List QF := [yjX]
def y7b (t : ymo) : St := ⟨.dead :: vI t.1 :: dd 2 (.box 4 0 :: .own 10000000 :: vI t.2.1 :: dd 29 []), [(4, .box [vI t.2.2.1, vI t.2.2.2.1, vI t.2.2.2.2.1, vI t.2.2.2.2.2.1, vI t.2.2.2.2.2.2.1]), (10000000, .root true 81 yh t.2.2.2.2.2.2.2)]⟩
def yiM : Gk vR := fun κ => Ju (fun t => κ none ⟨dd 4 (.box 4 0 :: dd 31 []), [(4, .box [vI t.1, vI t.2.1, vI t.2.2.1, vI t.2.2.2.1, vI t.2.2.2.2])]⟩) (fun t => κ (some 0) ⟨dd 4 (.box 4 0 :: dd 31 []), [(4, .box [vI t.1, vI t.2.1, vI t.2.2.1, vI t.2.2.2.1, vI t.2.2.2.2])]⟩)
def ykN : Lp := lpC 3 (unG ymp y7b) @yiM lpN
theorem yqz : LF ykM ykN 152 3 Tryz.f152 0 y7b @yiM fun t => t := fun R κ again t => by kernel_rfl
theorem yqA : LK ykM ykN 152 Tryz.f152 0 := lkN (u := (unG ymp y7b)) (yu fun t => by kernel_rfl) yqz
theorem yv2 : EV ykM ykN 152 Tryz.f152 yoS y8I VR WQ := fun x => by kernel_rfl
def yBw : QF := ⟨152, WQ, okN (n := 1) Tryz.func152 ⟨yqA, trivial⟩ yv2⟩
def zC (x : y8H) : Option ygl :=
 Option.bind (yj (x.1, x.2.1, x.2.2.1, x.2.2.2.1, x.2.2.2.2.1, x.2.2.2.2.2.1)) fun r1 => Option.bind (yH (x.1, x.2.1, x.2.2.1, x.2.2.2.1, x.2.2.2.2.1, x.2.2.2.2.2.1)) fun r2 => Option.bind (bif (!r2) then some true else Option.bind (yz (x.2.2.2.2.2.2, (0 : Int), (Go.IntKind.wrap .i64 ((List.length x.2.2.2.1 : Int) - (1 : Int))))) fun r4 => some (!r4)) fun u3 => Option.bind (bif u3 then some true else if (0 : Int) ≤ x.2.2.2.2.2.2 then if x.2.2.2.2.2.2 < (List.length x.2.2.2.1 : Int) then some (!((yo x.2.2.2.1 x.2.2.2.2.2.2).2.1)) else none else none) fun u5 => bif u5 then some (r1.1, r1.2.1, r1.2.2.1, r1.2.2.2.1, r1.2.2.2.2.1, r1.2.2.2.2.2, false) else Option.bind (WQ x) fun r6 => if (0 : Int) ≤ x.2.2.2.2.2.2 then if x.2.2.2.2.2.2 < (List.length x.2.2.2.1 : Int) then Option.bind (Y7 (x.2.2.2.1, (yo x.2.2.2.1 x.2.2.2.2.2.2).2.2)) fun r7 => Option.bind (bif (!r7.2.2) then some true else some (decide (r7.2.1 > x.2.2.2.2.2.2))) fun u8 => bif u8 then some (r1.1, r1.2.1, r1.2.2.1, r1.2.2.2.1, r1.2.2.2.2.1, r1.2.2.2.2.2, false) else if (0 : Int) ≤ r7.2.1 then if r7.2.1 < (List.length r7.1 : Int) then Option.bind (Y3 (x.1, x.2.1, r6.1, r6.2.1, r6.2.2.1, r7.2.1, (yo r7.1 r7.2.1).1)) fun r9 => Option.bind (ZV (r7.1, x.2.2.2.2.2.2)) fun r10 => Option.bind (bif (!r9.2.2) then some true else Option.bind (yH (r9.1, r9.2.1, r1.2.2.1, r10, r1.2.2.2.2)) fun r12 => some (!r12)) fun u11 => bif u11 then Option.bind (yj (x.1, x.2.1, x.2.2.1, x.2.2.2.1, x.2.2.2.2.1, x.2.2.2.2.2.1)) fun r13 => some (r13.1, r13.2.1, r13.2.2.1, r13.2.2.2.1, r13.2.2.2.2.1, r13.2.2.2.2.2, false) else some (r9.1, r9.2.1, r1.2.2.1, r10, r1.2.2.2.2.1, r1.2.2.2.2.2, true) else none else none else none else none
theorem yv3 : EV [q76, q77, y6t, yA6, yuC, yBw, yA9] lpN 129 Tryz.f129 yoT y8I ygm zC := fun x => by kernel_rfl
def yBx : QF := ⟨129, zC, okN (n := 0) Tryz.func129 trivial yv3⟩
def wD (x : yjx) : Option ygl :=
 bif (x.2.2.2.2.2.2.1 == (7 : Int)) then Option.bind (zq (x.1, x.2.1, x.2.2.1, x.2.2.2.1, x.2.2.2.2.1, x.2.2.2.2.2.1)) fun r1 => some r1 else bif (x.2.2.2.2.2.2.1 == (8 : Int)) then Option.bind (zB (x.1, x.2.1, x.2.2.1, x.2.2.2.1, x.2.2.2.2.1, x.2.2.2.2.2.1, x.2.2.2.2.2.2.2.2.2.1)) fun r2 => some r2 else Option.bind (zC (x.1, x.2.1, x.2.2.1, x.2.2.2.1, x.2.2.2.2.1, x.2.2.2.2.2.1, x.2.2.2.2.2.2.2.2.2.1)) fun r3 => some r3
theorem yBy : EV [yBs, yBv, yBx] lpN 84 Tryz.f84 yyU yjy ygm wD := fun x => by kernel_rfl
def q84 : QF := ⟨84, wD, okN (n := 0) Tryz.func84 trivial yBy⟩
def Zt (x : yjx) : Option y8H :=
 Option.bind (vu x.2.2.2.2.2.2) fun r1 => Option.bind (bif (!r1) then some true else Option.bind (yH (x.1, x.2.1, x.2.2.1, x.2.2.2.1, x.2.2.2.2.1, x.2.2.2.2.2.1)) fun r3 => some (!r3)) fun u2 => bif u2 then Option.bind (yj (x.1, x.2.1, x.2.2.1, x.2.2.2.1, x.2.2.2.2.1, x.2.2.2.2.2.1)) fun r4 => some (r4.1, r4.2.1, r4.2.2.1, r4.2.2.2.1, r4.2.2.2.2.1, r4.2.2.2.2.2, (1 : Int)) else bif (x.2.2.2.2.2.2.1 == (1 : Int)) then Option.bind (YV (x.1, x.2.1, x.2.2.1, x.2.2.2.1, x.2.2.2.2.1, x.2.2.2.2.2.1, x.2.2.2.2.2.2.2.1, x.2.2.2.2.2.2.2.2.2.1)) fun r5 => some r5 else bif (x.2.2.2.2.2.2.1 == (2 : Int)) then Option.bind (jv (x.1, x.2.1, x.2.2.1, x.2.2.2.1, x.2.2.2.2.1, x.2.2.2.2.2.1, x.2.2.2.2.2.2.2.1, x.2.2.2.2.2.2.2.2.1, (x.2.2.2.2.2.2.2.2.2.2 == (1 : Int)))) fun r6 => some r6 else bif (x.2.2.2.2.2.2.1 == (3 : Int)) then Option.bind (jw (x.1, x.2.1, x.2.2.1, x.2.2.2.1, x.2.2.2.2.1, x.2.2.2.2.2.1, x.2.2.2.2.2.2.2.1)) fun r7 => some r7 else bif (x.2.2.2.2.2.2.1 == (4 : Int)) then Option.bind (Zp (x.1, x.2.1, x.2.2.1, x.2.2.2.1, x.2.2.2.2.1, x.2.2.2.2.2.1, x.2.2.2.2.2.2.2.1, x.2.2.2.2.2.2.2.2.2)) fun r8 => some r8 else bif (x.2.2.2.2.2.2.1 == (5 : Int)) then Option.bind (Yw (x.1, x.2.1, x.2.2.1, x.2.2.2.1, x.2.2.2.2.1, x.2.2.2.2.2.1, x.2.2.2.2.2.2.2.1, x.2.2.2.2.2.2.2.2.2.1)) fun r9 => some r9 else bif (x.2.2.2.2.2.2.1 == (6 : Int)) then Option.bind (YW (x.1, x.2.1, x.2.2.1, x.2.2.2.1, x.2.2.2.2.1, x.2.2.2.2.2.1, x.2.2.2.2.2.2.2.1, x.2.2.2.2.2.2.2.2.2.1)) fun r10 => some r10 else Option.bind (wD x) fun r11 => bif (!r11.2.2.2.2.2.2) then some (r11.1, r11.2.1, r11.2.2.1, r11.2.2.2.1, r11.2.2.2.2.1, r11.2.2.2.2.2.1, (2 : Int)) else some (r11.1, r11.2.1, r11.2.2.1, r11.2.2.2.1, r11.2.2.2.2.1, r11.2.2.2.2.2.1, (0 : Int))
theorem yBz : EV [q75, q76, q77, q78, q79, q80, q81, q82, q83, q84] lpN 46 Tryz.f46 yyV yjy y8I Zt := fun x => by kernel_rfl
def q46 : QF := ⟨46, Zt, okN (n := 0) Tryz.func46 trivial yBz⟩
abbrev wP : Type := yeo ⊕ yep
def jQ (k0 : ysT → Option R) (k1 : ysU → Option R) (again : wP → Option R) : wP → Option R
 | .inl t3 => bif (decide (t3.1 > (0 : Int))) then Option.bind (Y2 (t3.2.1, t3.2.2.1, t3.2.2.2.1)) fun r3 => Option.bind (Zt (t3.2.2.2.2.2.2.1, t3.2.2.2.2.2.2.2.1, t3.2.2.2.2.2.2.2.2.1, t3.2.2.2.2.2.2.2.2.2.1, t3.2.2.2.2.2.2.2.2.2.2, t3.2.2.2.2.2.1, r3.1, r3.2.1, r3.2.2.1, r3.2.2.2.1, r3.2.2.2.2.1)) fun r4 => again (Sum.inr ((Go.IntKind.wrap .i64 (t3.1 - (1 : Int))), r3.2.2.2.2.2.1, r3.2.2.2.2.2.2.1, r3.2.2.2.2.2.2.2, t3.2.2.2.2.1, r4.1, r4.2.1, r4.2.2.1, r4.2.2.2.2.2.1, r4.2.2.2.1, r4.2.2.2.2.1)) else k0 t3.2
 | .inr t3 => bif (decide (t3.1 > (0 : Int))) then Option.bind (Y2 (t3.2.1, t3.2.2.1, t3.2.2.2.1)) fun r5 => Option.bind (Zt (t3.2.2.2.2.2.1, t3.2.2.2.2.2.2.1, t3.2.2.2.2.2.2.2.1, t3.2.2.2.2.2.2.2.2.2.1, t3.2.2.2.2.2.2.2.2.2.2, t3.2.2.2.2.2.2.2.2.1, r5.1, r5.2.1, r5.2.2.1, r5.2.2.2.1, r5.2.2.2.2.1)) fun r6 => again (Sum.inr ((Go.IntKind.wrap .i64 (t3.1 - (1 : Int))), r5.2.2.2.2.2.1, r5.2.2.2.2.2.2.1, r5.2.2.2.2.2.2.2, t3.2.2.2.2.1, r6.1, r6.2.1, r6.2.2.1, r6.2.2.2.2.2.1, r6.2.2.2.1, r6.2.2.2.2.1)) else k1 t3.2
def Q6 k0 k1 := zV (@jQ R k0 k1) Yg
def wE (x : Qz3) : Option ysV :=
 Option.bind (Ki ()) fun r1 => Option.bind (yt (x.1, x.2.1, x.2.2.1, (Go.IntKind.wrap .i64 (x.2.2.2 + (1 : Int))))) fun r2 => Q6 (fun x7 => some (x7.2.2.2.2.2.1, x7.2.2.2.2.2.2.1, x7.2.2.2.2.2.2.2.1, x7.2.2.2.2.2.2.2.2.1, x7.2.2.2.2.2.2.2.2.2, x7.2.2.2.2.1, x7.1, x7.2.1, x7.2.2.1)) (fun x8 => some (x8.2.2.2.2.1, x8.2.2.2.2.2.1, x8.2.2.2.2.2.2.1, x8.2.2.2.2.2.2.2.2.1, x8.2.2.2.2.2.2.2.2.2, x8.2.2.2.2.2.2.2.1, x8.1, x8.2.1, x8.2.2.1)) (Sum.inl (r2.1, r2.2.1, r2.2.2.1, r2.2.2.2, (0 : Int), r1.2.2.2.2.2, r1.1, r1.2.1, r1.2.2.1, r1.2.2.2.1, r1.2.2.2.2.1))
def yqB : List QF := [q20, q44, q45, q46]
def y7c (t : yeo) : St := ⟨.box 900 0 :: dd 3 (.box 4 0 :: .box 5 0 :: vI t.1 :: dd 17 []), [(900, .box [ylJ t.2.1, vI t.2.2.1, vI t.2.2.2.1]), (4, .box [.nils, .nils, .nils, .nils, .nils, vI t.2.2.2.2.1]), (5, .box [.own 10000000, .own 10000001, .own 10000002, .own 10000003, .own 10000004, vI t.2.2.2.2.2.1]), (10000000, .root true 3 yf t.2.2.2.2.2.2.1), (10000001, .root true 84 yk t.2.2.2.2.2.2.2.1), (10000002, .root true 91 yl t.2.2.2.2.2.2.2.2.1), (10000003, .root true 79 yg t.2.2.2.2.2.2.2.2.2.1), (10000004, .root true 40 yK t.2.2.2.2.2.2.2.2.2.2)]⟩
theorem ykO : ∀ s t, unG ymq y7c s = some t → y7c t = s := yu fun t => by kernel_rfl
def y7d (t : yep) : St := ⟨.box 900 0 :: dd 3 (.box 4 0 :: .box 5 0 :: vI t.1 :: dd 17 []), [(900, .box [ylJ t.2.1, vI t.2.2.1, vI t.2.2.2.1]), (4, .box [.nils, .nils, .nils, .nils, .nils, vI t.2.2.2.2.1]), (5, .box [zj t.2.2.2.2.2.1, yJ t.2.2.2.2.2.2.1, zz t.2.2.2.2.2.2.2.1, .own 10000000, .own 10000001, vI t.2.2.2.2.2.2.2.2.1]), (10000000, .root true 79 yg t.2.2.2.2.2.2.2.2.2.1), (10000001, .root true 40 yK t.2.2.2.2.2.2.2.2.2.2)]⟩
theorem ykP : ∀ s t, unG ymr y7d s = some t → y7d t = s := yu fun t => by kernel_rfl
def y7e : (yeo ⊕ yep) → St := Sum.elim y7c y7d
def yaf (s : St) : Option (yeo ⊕ yep) := ((unG ymq y7c s).map Sum.inl).or (((unG ymr y7d) s).map Sum.inr)
theorem ykQ : ∀ s t, yaf s = some t → y7e t = s := y8C ykO ykP
def ygK : Gk wP := fun κ => jQ (fun t => κ (some 0) ⟨.box 900 0 :: dd 3 (.box 4 0 :: .box 5 0 :: dd 18 []), [(900, .box [ylJ t.1, vI t.2.1, vI t.2.2.1]), (4, .box [.nils, .nils, .nils, .nils, .nils, vI t.2.2.2.1]), (5, .box [.own 10000000, .own 10000001, .own 10000002, .own 10000003, .own 10000004, vI t.2.2.2.2.1]), (10000000, .root true 3 yf t.2.2.2.2.2.1), (10000001, .root true 84 yk t.2.2.2.2.2.2.1), (10000002, .root true 91 yl t.2.2.2.2.2.2.2.1), (10000003, .root true 79 yg t.2.2.2.2.2.2.2.2.1), (10000004, .root true 40 yK t.2.2.2.2.2.2.2.2.2)]⟩) (fun t => κ (some 0) ⟨.box 900 0 :: dd 3 (.box 4 0 :: .box 5 0 :: dd 18 []), [(900, .box [ylJ t.1, vI t.2.1, vI t.2.2.1]), (4, .box [.nils, .nils, .nils, .nils, .nils, vI t.2.2.2.1]), (5, .box [zj t.2.2.2.2.1, yJ t.2.2.2.2.2.1, zz t.2.2.2.2.2.2.1, .own 10000000, .own 10000001, vI t.2.2.2.2.2.2.2.1]), (10000000, .root true 79 yg t.2.2.2.2.2.2.2.2.1), (10000001, .root true 40 yK t.2.2.2.2.2.2.2.2.2)]⟩)
def yqC : Lp := lpC 3 yaf @ygK lpN
theorem ykR : LF yqB yqC 18 3 Tryz.f18 0 y7e @ygK fun v : yeo => .inl v := fun R κ again v => by kernel_rfl
theorem ykS : LF yqB yqC 18 3 Tryz.f18 0 y7e @ygK fun v : yep => .inr v := fun R κ again v => by kernel_rfl
theorem yv4 : LF yqB yqC 18 3 Tryz.f18 0 y7e @ygK fun t => t := (LC.sum ykR ykS)
theorem yv5 : LK yqB yqC 18 Tryz.f18 0 := lkN (u := yaf) ykQ yv4
theorem yBA : EV yqB yqC 18 Tryz.f18 yyW qz3 ysW wE := fun x => by kernel_rfl
def q18 : QF := ⟨18, wE, okN (n := 1) Tryz.func18 ⟨yv5, trivial⟩ yBA⟩
def WR (x : Qz1) : Option Int :=
 bif (decide ((Go.IntKind.wrap .i64 ((3 : Int) + (Go.IntKind.wrap .i64 (Int.tdiv (List.length x.1 : Int) (12 : Int))))) > x.2)) then some x.2 else some (Go.IntKind.wrap .i64 ((3 : Int) + (Go.IntKind.wrap .i64 (Int.tdiv (List.length x.1 : Int) (12 : Int)))))
theorem yBB : EV [] lpN 19 Tryz.f19 yyX qz1 [(.int .i64)] WR := fun x => by kernel_rfl
def q19 : QF := ⟨19, WR, okN (n := 0) Tryz.func19 trivial yBB⟩
def Jv (x : List y4U) : Option yjx :=
 Option.bind (Vo x) fun r1 => Option.bind (WR (x, (30 : Int))) fun r2 => Option.bind (wE (r1.1, r1.2.1, r1.2.2, (Go.IntKind.wrap .i64 ((8 : Int) + r2)))) fun r3 => Option.bind (Y2 r3.2.2.2.2.2.2) fun r4 => some (r3.1, r3.2.1, r3.2.2.1, r3.2.2.2.1, r3.2.2.2.2.1, r3.2.2.2.2.2.1, r4.1, r4.2.1, r4.2.2.1, r4.2.2.2.1, r4.2.2.2.2.1)
theorem ev5 : EV [q17, q18, q19, q20] lpN 5 Tryz.f5 sg5 [(.sl 5 kw)] yjy Jv := fun x => by kernel_rfl
def q5 : QF := ⟨5, Jv, okN (n := 0) Tryz.func5 trivial ev5⟩
def Y8 (x : List y7) : Option (List y7) :=
 if (List.length ([] : List y7) + List.length x) * 40 < 140737488355328 then some (([] : List y7) ++ x) else none
theorem yv6 : EV [] lpN 103 Tryz.f103 yoU [(.sl 81 yh)] [(.sl 81 yh)] Y8 := fun x => by kernel_rfl
def yv7 : QF := ⟨103, Y8, okN (n := 0) Tryz.func103 trivial yv6⟩
def J1 (x : yrX) : Option Bool :=
 Option.bind (bif (decide (x.1 < x.2.2.2.2.2.1)) then some true else Option.bind (bif (x.1 == x.2.2.2.2.2.1) then some (decide (x.2.1 < x.2.2.2.2.2.2.1)) else some false) fun u2 => some u2) fun u1 => some u1
theorem yv8 : EV [] lpN 134 Tryz.f134 yoV yrY [.bool] J1 := fun x => by kernel_rfl
def yAg : QF := ⟨134, J1, okN (n := 0) Tryz.func134 trivial yv8⟩
def ZY (x : yrX) : Option Bool :=
 Option.bind (bif (x.1 == x.2.2.2.2.2.1) then some (x.2.1 == x.2.2.2.2.2.2.1) else some false) fun u1 => some u1
theorem yv9 : EV [] lpN 135 Tryz.f135 yoW yrY [.bool] ZY := fun x => by kernel_rfl
def yBC : QF := ⟨135, ZY, okN (n := 0) Tryz.func135 trivial yv9⟩
abbrev WS : Type := yms
def Z6 (k0 : yxy → Option R) (again : WS → Option R) (t4 : WS) : Option R :=
 bif (decide (t4.2.2.2.1 < t4.2.2.1)) then if (0 : Int) ≤ t4.2.2.2.1 then if t4.2.2.2.1 < (List.length t4.2.1 : Int) then Option.bind (bif (!t4.1) then Option.bind (J1 ((y6 t4.2.1 t4.2.2.2.1).1, (y6 t4.2.1 t4.2.2.2.1).2.1, (y6 t4.2.1 t4.2.2.2.1).2.2.1, (y6 t4.2.1 t4.2.2.2.1).2.2.2.1, (y6 t4.2.1 t4.2.2.2.1).2.2.2.2, t4.2.2.2.2.1, t4.2.2.2.2.2.1, t4.2.2.2.2.2.2.1, t4.2.2.2.2.2.2.2.1, t4.2.2.2.2.2.2.2.2.1)) fun r2 => some (!r2) else some false) fun u1 => bif u1 then if (List.length t4.2.2.2.2.2.2.2.2.2 + List.length ([(t4.2.2.2.2.1, t4.2.2.2.2.2.1, t4.2.2.2.2.2.2.1, t4.2.2.2.2.2.2.2.1, t4.2.2.2.2.2.2.2.2.1)] : List y7)) * 40 < 140737488355328 then Option.bind (ZY ((y6 t4.2.1 t4.2.2.2.1).1, (y6 t4.2.1 t4.2.2.2.1).2.1, (y6 t4.2.1 t4.2.2.2.1).2.2.1, (y6 t4.2.1 t4.2.2.2.1).2.2.2.1, (y6 t4.2.1 t4.2.2.2.1).2.2.2.2, t4.2.2.2.2.1, t4.2.2.2.2.2.1, t4.2.2.2.2.2.2.1, t4.2.2.2.2.2.2.2.1, t4.2.2.2.2.2.2.2.2.1)) fun r3 => bif (!r3) then if (List.length (t4.2.2.2.2.2.2.2.2.2 ++ ([(t4.2.2.2.2.1, t4.2.2.2.2.2.1, t4.2.2.2.2.2.2.1, t4.2.2.2.2.2.2.2.1, t4.2.2.2.2.2.2.2.2.1)] : List y7)) + List.length ([((y6 t4.2.1 t4.2.2.2.1).1, (y6 t4.2.1 t4.2.2.2.1).2.1, (y6 t4.2.1 t4.2.2.2.1).2.2.1, (y6 t4.2.1 t4.2.2.2.1).2.2.2.1, (y6 t4.2.1 t4.2.2.2.1).2.2.2.2)] : List y7)) * 40 < 140737488355328 then again (true, t4.2.1, t4.2.2.1, (Go.IntKind.wrap .i64 (t4.2.2.2.1 + (1 : Int))), t4.2.2.2.2.1, t4.2.2.2.2.2.1, t4.2.2.2.2.2.2.1, t4.2.2.2.2.2.2.2.1, t4.2.2.2.2.2.2.2.2.1, ((t4.2.2.2.2.2.2.2.2.2 ++ ([(t4.2.2.2.2.1, t4.2.2.2.2.2.1, t4.2.2.2.2.2.2.1, t4.2.2.2.2.2.2.2.1, t4.2.2.2.2.2.2.2.2.1)] : List y7)) ++ ([((y6 t4.2.1 t4.2.2.2.1).1, (y6 t4.2.1 t4.2.2.2.1).2.1, (y6 t4.2.1 t4.2.2.2.1).2.2.1, (y6 t4.2.1 t4.2.2.2.1).2.2.2.1, (y6 t4.2.1 t4.2.2.2.1).2.2.2.2)] : List y7))) else none else again (true, t4.2.1, t4.2.2.1, (Go.IntKind.wrap .i64 (t4.2.2.2.1 + (1 : Int))), t4.2.2.2.2.1, t4.2.2.2.2.2.1, t4.2.2.2.2.2.2.1, t4.2.2.2.2.2.2.2.1, t4.2.2.2.2.2.2.2.2.1, (t4.2.2.2.2.2.2.2.2.2 ++ ([(t4.2.2.2.2.1, t4.2.2.2.2.2.1, t4.2.2.2.2.2.2.1, t4.2.2.2.2.2.2.2.1, t4.2.2.2.2.2.2.2.2.1)] : List y7))) else none else Option.bind (ZY ((y6 t4.2.1 t4.2.2.2.1).1, (y6 t4.2.1 t4.2.2.2.1).2.1, (y6 t4.2.1 t4.2.2.2.1).2.2.1, (y6 t4.2.1 t4.2.2.2.1).2.2.2.1, (y6 t4.2.1 t4.2.2.2.1).2.2.2.2, t4.2.2.2.2.1, t4.2.2.2.2.2.1, t4.2.2.2.2.2.2.1, t4.2.2.2.2.2.2.2.1, t4.2.2.2.2.2.2.2.2.1)) fun r4 => bif (!r4) then if (List.length t4.2.2.2.2.2.2.2.2.2 + List.length ([((y6 t4.2.1 t4.2.2.2.1).1, (y6 t4.2.1 t4.2.2.2.1).2.1, (y6 t4.2.1 t4.2.2.2.1).2.2.1, (y6 t4.2.1 t4.2.2.2.1).2.2.2.1, (y6 t4.2.1 t4.2.2.2.1).2.2.2.2)] : List y7)) * 40 < 140737488355328 then again (t4.1, t4.2.1, t4.2.2.1, (Go.IntKind.wrap .i64 (t4.2.2.2.1 + (1 : Int))), t4.2.2.2.2.1, t4.2.2.2.2.2.1, t4.2.2.2.2.2.2.1, t4.2.2.2.2.2.2.2.1, t4.2.2.2.2.2.2.2.2.1, (t4.2.2.2.2.2.2.2.2.2 ++ ([((y6 t4.2.1 t4.2.2.2.1).1, (y6 t4.2.1 t4.2.2.2.1).2.1, (y6 t4.2.1 t4.2.2.2.1).2.2.1, (y6 t4.2.1 t4.2.2.2.1).2.2.2.1, (y6 t4.2.1 t4.2.2.2.1).2.2.2.2)] : List y7))) else none else again (t4.1, t4.2.1, t4.2.2.1, (Go.IntKind.wrap .i64 (t4.2.2.2.1 + (1 : Int))), t4.2.2.2.2.1, t4.2.2.2.2.2.1, t4.2.2.2.2.2.2.1, t4.2.2.2.2.2.2.2.1, t4.2.2.2.2.2.2.2.2.1, t4.2.2.2.2.2.2.2.2.2) else none else none else k0 (t4.1, t4.2.2.2.2)
def vT k0 := zV (@Z6 R k0) Yg
def jz (x : yxz) : Option (List y7) :=
 vT (fun x5 => bif (!x5.1) then if (List.length x5.2.2.2.2.2.2 + List.length ([(x5.2.1, x5.2.2.1, x5.2.2.2.1, x5.2.2.2.2.1, x5.2.2.2.2.2.1)] : List y7)) * 40 < 140737488355328 then some (x5.2.2.2.2.2.2 ++ ([(x5.2.1, x5.2.2.1, x5.2.2.2.1, x5.2.2.2.2.1, x5.2.2.2.2.2.1)] : List y7)) else none else some x5.2.2.2.2.2.2) (false, x.1, (List.length x.1 : Int), (0 : Int), x.2.1, x.2.2.1, x.2.2.2.1, x.2.2.2.2.1, x.2.2.2.2.2, ([] : List y7))
def ykT : List QF := [yAg, yBC]
def y7f (t : yms) : St := ⟨dd 3 (.box 3 0 :: .dead :: .own 10000000 :: vB t.1 :: dd 3 (qI t.2.1 :: vI t.2.2.1 :: vI t.2.2.2.1 :: dd 31 [])), [(3, .box [vI t.2.2.2.2.1, vI t.2.2.2.2.2.1, vI t.2.2.2.2.2.2.1, vI t.2.2.2.2.2.2.2.1, vI t.2.2.2.2.2.2.2.2.1]), (10000000, .root true 81 yh t.2.2.2.2.2.2.2.2.2)]⟩
def yiN : Gk WS := fun κ => Z6 (fun t => κ (some 0) ⟨dd 3 (.box 3 0 :: .dead :: .own 10000000 :: vB t.1 :: dd 37 []), [(3, .box [vI t.2.1, vI t.2.2.1, vI t.2.2.2.1, vI t.2.2.2.2.1, vI t.2.2.2.2.2.1]), (10000000, .root true 81 yh t.2.2.2.2.2.2)]⟩)
def ykU : Lp := lpC 4 (unG ymt y7f) @yiN lpN
theorem yqD : LF ykT ykU 104 4 Tryz.f104 0 y7f @yiN fun t => t := fun R κ again t => by kernel_rfl
theorem yqE : LK ykT ykU 104 Tryz.f104 0 := lkN (u := (unG ymt y7f)) (yu fun t => by kernel_rfl) yqD
theorem yva : EV ykT ykU 104 Tryz.f104 yoX yxA [(.sl 81 yh)] jz := fun x => by kernel_rfl
def yvb : QF := ⟨104, jz, okN (n := 1) Tryz.func104 ⟨yqE, trivial⟩ yva⟩
abbrev WT : Type := ygn
def Zu (k0 : List y7 → Option R) (again : WT → Option R) (t3 : WT) : Option R :=
 bif (decide (t3.2.2.1 < t3.2.1)) then if (0 : Int) ≤ t3.2.2.1 then if t3.2.2.1 < (List.length t3.1 : Int) then Option.bind (jz (t3.2.2.2, (y6 t3.1 t3.2.2.1).1, (y6 t3.1 t3.2.2.1).2.1, (y6 t3.1 t3.2.2.1).2.2.1, (y6 t3.1 t3.2.2.1).2.2.2.1, (y6 t3.1 t3.2.2.1).2.2.2.2)) fun r2 => again (t3.1, t3.2.1, (Go.IntKind.wrap .i64 (t3.2.2.1 + (1 : Int))), r2) else none else none else k0 t3.2.2.2
def Vt k0 := zV (@Zu R k0) Yg
def Ze (x : ysF) : Option (List y7) :=
 Option.bind (Y8 x.1) fun r1 => Vt (fun x3 => some x3) (x.2, (List.length x.2 : Int), (0 : Int), r1)
def yvc : List QF := [yv7, yvb]
def yag (t : ygn) : St := ⟨dd 5 (.own 10000000 :: dd 4 (qI t.1 :: vI t.2.1 :: vI t.2.2.1 :: dd 8 [])), [(10000000, .root true 81 yh t.2.2.2)]⟩
def yqF : Gk WT := fun κ => Zu (fun t => κ (some 0) ⟨dd 5 (.own 10000000 :: dd 15 []), [(10000000, .root true 81 yh t)]⟩)
def yvd : Lp := lpC 3 (unG ygo yag) @yqF lpN
theorem yve : LF yvc yvd 65 3 Tryz.f65 0 yag @yqF fun t => t := fun R κ again t => by kernel_rfl
theorem yvf : LK yvc yvd 65 Tryz.f65 0 := lkN (u := (unG ygo yag)) (yu fun t => by kernel_rfl) yve
theorem yBD : EV yvc yvd 65 Tryz.f65 yyY ysG [(.sl 81 yh)] Ze := fun x => by kernel_rfl
def q65 : QF := ⟨65, Ze, okN (n := 1) Tryz.func65 ⟨yvf, trivial⟩ yBD⟩
abbrev qL : Type := ygn
def WU (k0 : List y7 → Option R) (again : qL → Option R) (t3 : qL) : Option R :=
 bif (decide (t3.2.2.1 < t3.2.1)) then if (0 : Int) ≤ t3.2.2.1 then if t3.2.2.1 < (List.length t3.1 : Int) then bif ((y6 t3.1 t3.2.2.1).2.2.1 != (0 : Int)) then if (List.length t3.2.2.2 + List.length ([((y6 t3.1 t3.2.2.1).1, (y6 t3.1 t3.2.2.1).2.1, (y6 t3.1 t3.2.2.1).2.2.1, (y6 t3.1 t3.2.2.1).2.2.2.1, (y6 t3.1 t3.2.2.1).2.2.2.2)] : List y7)) * 40 < 140737488355328 then again (t3.1, t3.2.1, (Go.IntKind.wrap .i64 (t3.2.2.1 + (1 : Int))), (t3.2.2.2 ++ ([((y6 t3.1 t3.2.2.1).1, (y6 t3.1 t3.2.2.1).2.1, (y6 t3.1 t3.2.2.1).2.2.1, (y6 t3.1 t3.2.2.1).2.2.2.1, (y6 t3.1 t3.2.2.1).2.2.2.2)] : List y7))) else none else again (t3.1, t3.2.1, (Go.IntKind.wrap .i64 (t3.2.2.1 + (1 : Int))), t3.2.2.2) else none else none else k0 t3.2.2.2
def y1G k0 := zV (@WU R k0) Yg
def Jw (x : List y7) : Option (List y7) :=
 y1G (fun x1 => some x1) (x, (List.length x : Int), (0 : Int), ([] : List y7))
def yvg : List QF := []
def yah (t : ygn) : St := ⟨dd 3 (.own 10000000 :: dd 3 (qI t.1 :: vI t.2.1 :: vI t.2.2.1 :: dd 12 [])), [(10000000, .root true 81 yh t.2.2.2)]⟩
def yqG : Gk qL := fun κ => WU (fun t => κ (some 0) ⟨dd 3 (.own 10000000 :: dd 18 []), [(10000000, .root true 81 yh t)]⟩)
def yvh : Lp := lpC 3 (unG ygo yah) @yqG lpN
theorem yvi : LF yvg yvh 66 3 Tryz.f66 0 yah @yqG fun t => t := fun R κ again t => by kernel_rfl
theorem yvj : LK yvg yvh 66 Tryz.f66 0 := lkN (u := (unG ygo yah)) (yu fun t => by kernel_rfl) yvi
theorem yBE : EV yvg yvh 66 Tryz.f66 yyZ [(.sl 81 yh)] [(.sl 81 yh)] Jw := fun x => by kernel_rfl
def q66 : QF := ⟨66, Jw, okN (n := 1) Tryz.func66 ⟨yvj, trivial⟩ yBE⟩
abbrev kS : Type := ymu
def ZZ (k0 : List y7 → Option R) (again : kS → Option R) (t3 : kS) : Option R :=
 bif (decide (t3.2.2.1 < t3.2.1)) then if (0 : Int) ≤ t3.2.2.1 then if t3.2.2.1 < (List.length t3.1 : Int) then Option.bind (Ze (t3.2.2.2, (ym t3.1 t3.2.2.1))) fun r1 => again (t3.1, t3.2.1, (Go.IntKind.wrap .i64 (t3.2.2.1 + (1 : Int))), r1) else none else none else k0 t3.2.2.2
def qe k0 := zV (@ZZ R k0) Yg
def yP (x : List yb) : Option (List y7) :=
 qe (fun x2 => Option.bind (Jw x2) fun r3 => some r3) (x, (List.length x : Int), (0 : Int), ([] : List y7))
def yvk : List QF := [q65, q66]
def yai (t : ymu) : St := ⟨dd 3 (.own 10000000 :: dd 4 (YA t.1 :: vI t.2.1 :: vI t.2.2.1 :: dd 9 [])), [(10000000, .root true 81 yh t.2.2.2)]⟩
def yqH : Gk kS := fun κ => ZZ (fun t => κ (some 0) ⟨dd 3 (.own 10000000 :: dd 16 []), [(10000000, .root true 81 yh t)]⟩)
def yvl : Lp := lpC 3 (unG ymv yai) @yqH lpN
theorem yvm : LF yvk yvl 37 3 Tryz.f37 0 yai @yqH fun t => t := fun R κ again t => by kernel_rfl
theorem yvn : LK yvk yvl 37 Tryz.f37 0 := lkN (u := (unG ymv yai)) (yu fun t => by kernel_rfl) yvm
theorem yBF : EV yvk yvl 37 Tryz.f37 yz0 [(.sl 53 yr)] [(.sl 81 yh)] yP := fun x => by kernel_rfl
def q37 : QF := ⟨37, yP, okN (n := 1) Tryz.func37 ⟨yvn, trivial⟩ yBF⟩
def yD (x : ysD) : Option Bool :=
 Option.bind (bif (decide (x.1 ≥ x.2.1)) then some (decide (x.1 ≤ x.2.2)) else some false) fun u1 => some u1
theorem yBG : EV [] lpN 41 Tryz.f41 yz1 ysE [.bool] yD := fun x => by kernel_rfl
def q41 : QF := ⟨41, yD, okN (n := 0) Tryz.func41 trivial yBG⟩
def Wa (x : yfz) : Option Bool :=
 Option.bind (yD (x.1, (0 : Int), (15 : Int))) fun r1 => Option.bind (bif (!r1) then some true else Option.bind (yD (x.2.1, (1 : Int), (60 : Int))) fun r3 => some (!r3)) fun u2 => Option.bind (bif u2 then some true else Option.bind (yD (x.2.2.1, (0 : Int), (2 : Int))) fun r5 => some (!r5)) fun u4 => bif u4 then some false else bif (x.2.2.1 != (1 : Int)) then Option.bind (bif (x.2.2.2.1 == (0 : Int)) then some (x.2.2.2.2 == (0 : Int)) else some false) fun u6 => some u6 else Option.bind (yD (x.2.2.2.1, (0 : Int), (23 : Int))) fun r7 => Option.bind (bif r7 then Option.bind (yD (x.2.2.2.2, (0 : Int), (999 : Int))) fun r9 => some r9 else some false) fun u8 => some u8
theorem yBH : EV [q41] lpN 96 Tryz.f96 yz2 VR [.bool] Wa := fun x => by kernel_rfl
def q96 : QF := ⟨96, Wa, okN (n := 0) Tryz.func96 trivial yBH⟩
abbrev VG : Type := ymw
def wF (k0 : yxt → Option R) (k1 : List y7 → Option R) (again : VG → Option R) (t2 : VG) : Option R :=
 bif (decide (t2.2.2.2 < t2.2.2.1)) then if (0 : Int) ≤ t2.2.2.2 then if t2.2.2.2 < (List.length t2.2.1 : Int) then Option.bind (Wa ((y6 t2.2.1 t2.2.2.2).1, (y6 t2.2.1 t2.2.2.2).2.1, (y6 t2.2.1 t2.2.2.2).2.2.1, (y6 t2.2.1 t2.2.2.2).2.2.2.1, (y6 t2.2.1 t2.2.2.2).2.2.2.2)) fun r1 => Option.bind (bif (!r1) then some true else Option.bind (bif (decide (t2.2.2.2 > (0 : Int))) then if (0 : Int) ≤ (Go.IntKind.wrap .i64 (t2.2.2.2 - (1 : Int))) then if (Go.IntKind.wrap .i64 (t2.2.2.2 - (1 : Int))) < (List.length t2.1 : Int) then Option.bind (J1 ((y6 t2.1 (Go.IntKind.wrap .i64 (t2.2.2.2 - (1 : Int)))).1, (y6 t2.1 (Go.IntKind.wrap .i64 (t2.2.2.2 - (1 : Int)))).2.1, (y6 t2.1 (Go.IntKind.wrap .i64 (t2.2.2.2 - (1 : Int)))).2.2.1, (y6 t2.1 (Go.IntKind.wrap .i64 (t2.2.2.2 - (1 : Int)))).2.2.2.1, (y6 t2.1 (Go.IntKind.wrap .i64 (t2.2.2.2 - (1 : Int)))).2.2.2.2, (y6 t2.2.1 t2.2.2.2).1, (y6 t2.2.1 t2.2.2.2).2.1, (y6 t2.2.1 t2.2.2.2).2.2.1, (y6 t2.2.1 t2.2.2.2).2.2.2.1, (y6 t2.2.1 t2.2.2.2).2.2.2.2)) fun r4 => some (!r4) else none else none else some false) fun u3 => some u3) fun u2 => bif u2 then k0 (t2.1, false) else again (t2.1, t2.2.1, t2.2.2.1, (Go.IntKind.wrap .i64 (t2.2.2.2 + (1 : Int)))) else none else none else k1 t2.1
def y0M k0 k1 := zV (@wF R k0 k1) Yg
def KB (x : List y7) : Option Bool :=
 y0M (fun x5 => some x5.2) (fun x6 => some (decide ((List.length x6 : Int) ≤ (60 : Int)))) (x, x, (List.length x : Int), (0 : Int))
def ykV : List QF := [q96, yAg]
def y7g (t : ymw) : St := ⟨qI t.1 :: dd 4 (qI t.2.1 :: vI t.2.2.1 :: vI t.2.2.2 :: dd 25 []), []⟩
def yiO : Gk VG := fun κ => wF (fun t => κ none ⟨qI t.1 :: .dead :: vB t.2 :: dd 30 [], []⟩) (fun t => κ (some 0) ⟨qI t :: dd 32 [], []⟩)
def ykW : Lp := lpC 2 (unG ymx y7g) @yiO lpN
theorem yqI : LF ykV ykW 105 2 Tryz.f105 0 y7g @yiO fun t => t := fun R κ again t => by kernel_rfl
theorem yqJ : LK ykV ykW 105 Tryz.f105 0 := lkN (u := (unG ymx y7g)) (yu fun t => by kernel_rfl) yqI
theorem yvo : EV ykV ykW 105 Tryz.f105 yoY [(.sl 81 yh)] [.bool] KB := fun x => by kernel_rfl
def yBI : QF := ⟨105, KB, okN (n := 1) Tryz.func105 ⟨yqJ, trivial⟩ yvo⟩
abbrev vU : Type := ymy
def Jx (k0 : ysX → Option R) (k1 : yi4 → Option R) (again : vU → Option R) (t3 : vU) : Option R :=
 bif (decide (t3.2.2.2.1 < t3.2.2.1)) then if (0 : Int) ≤ t3.2.2.2.1 then if t3.2.2.2.1 < (List.length t3.2.1 : Int) then Option.bind (KB (ym t3.2.1 t3.2.2.2.1)) fun r1 => Option.bind (bif (!r1) then some true else some ((List.length (ym t3.2.1 t3.2.2.2.1) : Int) == (0 : Int))) fun u2 => bif u2 then k0 (false, t3.1, t3.2.2.2.2) else again ((Go.IntKind.wrap .i64 (t3.1 + (List.length (ym t3.2.1 t3.2.2.2.1) : Int))), t3.2.1, t3.2.2.1, (Go.IntKind.wrap .i64 (t3.2.2.2.1 + (1 : Int))), t3.2.2.2.2) else none else none else k1 (t3.1, t3.2.2.2.2)
def QO k0 k1 := zV (@Jx R k0 k1) Yg
def zJ (x : List yb) : Option Bool :=
 QO (fun x3 => some x3.1) (fun x4 => Option.bind (bif (decide ((List.length x4.2 : Int) ≤ (3 : Int))) then some (decide (x4.1 ≤ (8 : Int))) else some false) fun u5 => some u5) ((0 : Int), x, (List.length x : Int), (0 : Int), x)
def yvp : List QF := [yBI]
def yaj (t : ymy) : St := ⟨.dead :: .box 1 0 :: .dead :: vI t.1 :: dd 3 (YA t.2.1 :: vI t.2.2.1 :: vI t.2.2.2.1 :: dd 24 []), [(1, .box [YA t.2.2.2.2])]⟩
def yqK : Gk vU := fun κ => Jx (fun t => κ none ⟨.dead :: .box 1 0 :: vB t.1 :: vI t.2.1 :: dd 30 [], [(1, .box [YA t.2.2])]⟩) (fun t => κ (some 0) ⟨.dead :: .box 1 0 :: .dead :: vI t.1 :: dd 30 [], [(1, .box [YA t.2])]⟩)
def yvq : Lp := lpC 3 (unG ymz yaj) @yqK lpN
theorem yvr : LF yvp yvq 67 3 Tryz.f67 0 yaj @yqK fun t => t := fun R κ again t => by kernel_rfl
theorem yvs : LK yvp yvq 67 Tryz.f67 0 := lkN (u := (unG ymz yaj)) (yu fun t => by kernel_rfl) yvr
theorem yBJ : EV yvp yvq 67 Tryz.f67 yz3 [(.sl 53 yr)] [.bool] zJ := fun x => by kernel_rfl
def q67 : QF := ⟨67, zJ, okN (n := 1) Tryz.func67 ⟨yvs, trivial⟩ yBJ⟩
def Zv (x : yi5) : Option Int :=
 some (Go.IntKind.wrap .i64 ((Go.IntKind.wrap .i64 ((64 : Int) * x.1)) + x.2))
theorem yvt : EV [] lpN 100 Tryz.f100 yoZ yjr [(.int .i64)] Zv := fun x => by kernel_rfl
def yvu : QF := ⟨100, Zv, okN (n := 0) Tryz.func100 trivial yvt⟩
abbrev kT : Type := ymA
def j6 (k0 : ysY → Option R) (k1 : yjz → Option R) (again : kT → Option R) (t5 : kT) : Option R :=
 bif (decide (t5.2.2.2.2.2.2.1 < t5.2.2.2.2.2.1)) then if (0 : Int) ≤ t5.2.2.2.2.2.2.1 then if t5.2.2.2.2.2.2.1 < (List.length t5.2.2.2.2.1 : Int) then Option.bind (Zv ((y6 t5.2.2.2.2.1 t5.2.2.2.2.2.2.1).1, (y6 t5.2.2.2.2.1 t5.2.2.2.2.2.2.1).2.1)) fun r1 => if (0 : Int) ≤ t5.1 then if t5.1 < (List.length t5.2.2.2.2.2.2.2.1 : Int) then Option.bind (bif (decide (r1 < (zw t5.2.2.2.2.2.2.2.1 t5.1))) then some true else Option.bind (bif (decide ((Go.IntKind.wrap .i64 (t5.1 + (1 : Int))) < (List.length t5.2.2.2.2.2.2.2.1 : Int))) then if (0 : Int) ≤ (Go.IntKind.wrap .i64 (t5.1 + (1 : Int))) then if (Go.IntKind.wrap .i64 (t5.1 + (1 : Int))) < (List.length t5.2.2.2.2.2.2.2.1 : Int) then some (decide (r1 ≥ (zw t5.2.2.2.2.2.2.2.1 (Go.IntKind.wrap .i64 (t5.1 + (1 : Int)))))) else none else none else some false) fun u3 => some u3) fun u2 => bif u2 then k0 (t5.1, false, t5.2.1, t5.2.2.1, t5.2.2.2.1, t5.2.2.2.2.2.2.2) else again (t5.1, t5.2.1, t5.2.2.1, t5.2.2.2.1, t5.2.2.2.2.1, t5.2.2.2.2.2.1, (Go.IntKind.wrap .i64 (t5.2.2.2.2.2.2.1 + (1 : Int))), t5.2.2.2.2.2.2.2.1, t5.2.2.2.2.2.2.2.2) else none else none else none else none else k1 (t5.1, t5.2.1, t5.2.2.1, t5.2.2.2.1, t5.2.2.2.2.2.2.2)
def kU k0 k1 := zV (@j6 R k0 k1) Yg
abbrev kV : Type := yjz
def j7 (k0 : Bool → Option R) (k1 : Unit → Option R) (again : kV → Option R) (t2 : kV) : Option R :=
 bif (decide (t2.2.2.2.1 < t2.2.2.1)) then if (0 : Int) ≤ t2.2.2.2.1 then if t2.2.2.2.1 < (List.length t2.2.1 : Int) then kU (fun x4 => k0 x4.2.1) (fun x5 => again (x5.1, x5.2.1, x5.2.2.1, (Go.IntKind.wrap .i64 (x5.2.2.2.1 + (1 : Int))), x5.2.2.2.2.1, x5.2.2.2.2.2)) (t2.1, t2.2.1, t2.2.2.1, t2.2.2.2.1, (ym t2.2.1 t2.2.2.2.1), (List.length (ym t2.2.1 t2.2.2.2.1) : Int), (0 : Int), t2.2.2.2.2.1, t2.2.2.2.2.2) else none else none else k1 ()
def qf k0 k1 := zV (@j7 R k0 k1) Yg
def Jy (x : ym9) : Option Bool :=
 if (0 : Int) ≤ x.2.2 then if x.2.2 < (List.length x.2.1 : Int) then qf (fun x6 => some x6) (fun x7 => some true) (x.2.2, (ye x.2.1 x.2.2), (List.length (ye x.2.1 x.2.2) : Int), (0 : Int), x.1, x.2.1) else none else none
def yqL : List QF := [yvu]
def yak (t : ymA) : St := ⟨.dead :: vI t.1 :: .box 2 0 :: dd 12 (YA t.2.1 :: vI t.2.2.1 :: vI t.2.2.2.1 :: dd 3 (qI t.2.2.2.2.1 :: vI t.2.2.2.2.2.1 :: vI t.2.2.2.2.2.2.1 :: dd 35 [])), [(2, .box [zj t.2.2.2.2.2.2.2.1, yJ t.2.2.2.2.2.2.2.2])]⟩
def yqM : Gk kT := fun κ => j6 (fun t => κ none ⟨.dead :: vI t.1 :: .box 2 0 :: .dead :: vB t.2.1 :: dd 10 (YA t.2.2.1 :: vI t.2.2.2.1 :: vI t.2.2.2.2.1 :: dd 41 []), [(2, .box [zj t.2.2.2.2.2.1, yJ t.2.2.2.2.2.2])]⟩) (fun t => κ (some 2) ⟨.dead :: vI t.1 :: .box 2 0 :: dd 12 (YA t.2.1 :: vI t.2.2.1 :: vI t.2.2.2.1 :: dd 41 []), [(2, .box [zj t.2.2.2.2.1, yJ t.2.2.2.2.2])]⟩)
def yal (t : yjz) : St := ⟨.dead :: vI t.1 :: .box 2 0 :: dd 12 (YA t.2.1 :: vI t.2.2.1 :: vI t.2.2.2.1 :: dd 41 []), [(2, .box [zj t.2.2.2.2.1, yJ t.2.2.2.2.2])]⟩
def yqN : Gk kV := fun κ => j7 (fun t => κ none ⟨dd 4 (vB t :: dd 54 []), []⟩) (fun t => κ (some 0) ⟨dd 59 [], []⟩)
def yqO : Lp := lpC 2 (unG ymC yal) @yqN (lpC 5 (unG ymB yak) @yqM lpN)
theorem yvv : LF yqL yqO 68 5 Tryz.f68 1 yak @yqM fun t => t := fun R κ again t => by kernel_rfl
theorem yvw : LK yqL yqO 68 Tryz.f68 1 := lkN (u := (unG ymB yak)) (yu fun t => by kernel_rfl) yvv
theorem yvx : LF yqL yqO 68 2 Tryz.f68 0 yal @yqN fun t => t := fun R κ again t => by kernel_rfl
theorem yvy : LK yqL yqO 68 Tryz.f68 0 := lkN (u := (unG ymC yal)) (yu fun t => by kernel_rfl) yvx
theorem yBK : EV yqL yqO 68 Tryz.f68 yz4 yma [.bool] Jy := fun x => by kernel_rfl
def q68 : QF := ⟨68, Jy, okN (n := 2) Tryz.func68 ⟨yvy, yvw, trivial⟩ yBK⟩
abbrev vV : Type := ymD
def Jz (k0 : ymF → Option R) (k1 : Int → Option R) (again : vV → Option R) (t5 : vV) : Option R :=
 bif (decide (t5.2.2.2.1 < t5.2.2.1)) then if (0 : Int) ≤ t5.2.2.2.1 then if t5.2.2.2.1 < (List.length t5.2.1 : Int) then Option.bind (bif (decide (t5.2.2.2.1 > (0 : Int))) then if (0 : Int) ≤ (Go.IntKind.wrap .i64 (t5.2.2.2.1 - (1 : Int))) then if (Go.IntKind.wrap .i64 (t5.2.2.2.1 - (1 : Int))) < (List.length t5.2.2.2.2.1 : Int) then if (0 : Int) ≤ t5.2.2.2.1 then if t5.2.2.2.1 < (List.length t5.2.2.2.2.1 : Int) then some (decide ((zw t5.2.2.2.2.1 (Go.IntKind.wrap .i64 (t5.2.2.2.1 - (1 : Int)))) ≥ (zw t5.2.2.2.2.1 t5.2.2.2.1))) else none else none else none else none else some false) fun u4 => Option.bind (bif u4 then some true else Option.bind (zJ (ye t5.2.1 t5.2.2.2.1)) fun r6 => some (!r6)) fun u5 => Option.bind (bif u5 then some true else Option.bind (Jy (t5.2.2.2.2.1, t5.2.2.2.2.2, t5.2.2.2.1)) fun r8 => some (!r8)) fun u7 => bif u7 then k0 (false, t5.1) else Option.bind (yP (ye t5.2.1 t5.2.2.2.1)) fun r9 => Option.bind (bif (decide (t5.2.2.2.1 > (0 : Int))) then some ((List.length r9 : Int) == (0 : Int)) else some false) fun u10 => bif u10 then k0 (false, t5.1) else again ((Go.IntKind.wrap .i64 (t5.1 + (List.length r9 : Int))), t5.2.1, t5.2.2.1, (Go.IntKind.wrap .i64 (t5.2.2.2.1 + (1 : Int))), t5.2.2.2.2.1, t5.2.2.2.2.2) else none else none else k1 t5.1
def QP k0 k1 := zV (@Jz R k0 k1) Yg
def Yx (x : Qz8) : Option Bool :=
 Option.bind (yD ((List.length x.2 : Int), (1 : Int), (20 : Int))) fun r1 => Option.bind (bif (!r1) then some true else some ((List.length x.1 : Int) != (List.length x.2 : Int))) fun u2 => Option.bind (bif u2 then some true else if (0 : Int) ≤ (0 : Int) then if (0 : Int) < (List.length x.1 : Int) then some ((zw x.1 (0 : Int)) != (0 : Int)) else none else none) fun u3 => bif u3 then some false else QP (fun x11 => some x11.1) (fun x12 => some (decide (x12 ≤ (60 : Int)))) ((0 : Int), x.2, (List.length x.2 : Int), (0 : Int), x.1, x.2)
def yvz : List QF := [q37, q41, q67, q68]
def yam (t : ymD) : St := ⟨.dead :: .box 1 0 :: .dead :: vI t.1 :: dd 25 (yJ t.2.1 :: vI t.2.2.1 :: vI t.2.2.2.1 :: dd 46 []), [(1, .box [zj t.2.2.2.2.1, yJ t.2.2.2.2.2])]⟩
def yqP : Gk vV := fun κ => Jz (fun t => κ none ⟨dd 2 (vB t.1 :: vI t.2 :: dd 74 []), []⟩) (fun t => κ (some 0) ⟨dd 3 (vI t :: dd 74 []), []⟩)
def yvA : Lp := lpC 5 (unG ymE yam) @yqP lpN
theorem yvB : LF yvz yvA 38 5 Tryz.f38 0 yam @yqP fun t => t := fun R κ again t => by kernel_rfl
theorem yvC : LK yvz yvA 38 Tryz.f38 0 := lkN (u := (unG ymE yam)) (yu fun t => by kernel_rfl) yvB
theorem yBL : EV yvz yvA 38 Tryz.f38 yz5 qz8 [.bool] Yx := fun x => by kernel_rfl
def q38 : QF := ⟨38, Yx, okN (n := 1) Tryz.func38 ⟨yvC, trivial⟩ yBL⟩
def Kl (x : ysD) : Option ymF :=
 some ((x.1 == x.2.2), x.2.2)
theorem yBM : EV [] lpN 90 Tryz.f90 yz6 ysE ysZ Kl := fun x => by kernel_rfl
def q90 : QF := ⟨90, Kl, okN (n := 0) Tryz.func90 trivial yBM⟩
abbrev zM : Type := yeq
def yX (k0 : yi5 → Option R) (k1 : Int → Option R) (again : zM → Option R) (t2 : zM) : Option R :=
 bif (decide (t2.2.2.1 < t2.2.1)) then if (0 : Int) ≤ t2.2.2.1 then if t2.2.2.1 < (List.length t2.1 : Int) then Option.bind (Kl ((yM t2.1 t2.2.2.1).1, (yM t2.1 t2.2.2.1).2, t2.2.2.2)) fun r1 => bif r1.1 then k0 (t2.2.2.1, r1.2) else again (t2.1, t2.2.1, (Go.IntKind.wrap .i64 (t2.2.2.1 + (1 : Int))), r1.2) else none else none else k1 t2.2.2.2
def YQ k0 k1 := zV (@yX R k0 k1) Yg
def z5 (x : yfB) : Option yi5 :=
 YQ (fun x2 => some x2) (fun x3 => some ((-1 : Int), x3)) (x.1, (List.length x.1 : Int), (0 : Int), x.2)
def y7h : List QF := [q90]
def y14 (t : yeq) : St := ⟨zz t.1 :: .clo 90 901 :: dd 5 (vI t.2.1 :: vI t.2.2.1 :: dd 10 []), [(901, .box [vI t.2.2.2])]⟩
def y8K : Gk zM := fun κ => yX (fun t => κ none ⟨.dead :: .clo 90 901 :: dd 2 (vI t.1 :: dd 14 []), [(901, .box [vI t.2])]⟩) (fun t => κ (some 0) ⟨.dead :: .clo 90 901 :: dd 17 [], [(901, .box [vI t])]⟩)
def y7i : Lp := lpC 2 (unG ygp y14) @y8K lpN
theorem yeL : LF y7h y7i 100000 2 Tryz.f89 0 y14 @y8K fun t => t := fun R κ again t => by kernel_rfl
theorem yeM : LK y7h y7i 100000 Tryz.f89 0 := lkN (u := (unG ygp y14)) (yu fun t => by kernel_rfl) yeL
theorem ygL : EV y7h y7i 100000 Tryz.f89 ybH yfC yjr z5 := fun x => by kernel_rfl
def ykX : QF := ⟨100000, z5, okN (n := 1) Tryz.func89 ⟨yeM, trivial⟩ ygL⟩
def YB (x : yfB) : Option Int :=
 Option.bind (z5 x) fun r1 => some r1.1
theorem yBN : EV [ykX] lpN 57 Tryz.f57 yz7 yfC [(.int .i64)] YB := fun x => by kernel_rfl
def q57 : QF := ⟨57, YB, okN (n := 0) Tryz.func57 trivial yBN⟩
abbrev vW : Type := ymG
def JA (k0 : ymb → Option R) (k1 : List y9 → Option R) (again : vW → Option R) (t2 : vW) : Option R :=
 bif (decide (t2.2.2.2 < t2.2.2.1)) then if (0 : Int) ≤ t2.2.2.2 then if t2.2.2.2 < (List.length t2.2.1 : Int) then Option.bind (yD ((yM t2.2.1 t2.2.2.2).1, (1 : Int), (60 : Int))) fun r1 => Option.bind (bif (!r1) then some true else Option.bind (bif (decide (t2.2.2.2 > (0 : Int))) then if (0 : Int) ≤ (Go.IntKind.wrap .i64 (t2.2.2.2 - (1 : Int))) then if (Go.IntKind.wrap .i64 (t2.2.2.2 - (1 : Int))) < (List.length t2.1 : Int) then some (decide ((yM t2.1 (Go.IntKind.wrap .i64 (t2.2.2.2 - (1 : Int)))).1 ≥ (yM t2.2.1 t2.2.2.2).1)) else none else none else some false) fun u3 => some u3) fun u2 => Option.bind (bif u2 then some true else Option.bind (bif ((yM t2.2.1 t2.2.2.2).2 != (0 : Int)) then if (0 : Int) ≤ (0 : Int) then if (0 : Int) ≤ t2.2.2.2 then if t2.2.2.2 ≤ (List.length t2.1 : Int) then Option.bind (YB ((List.drop (Int.toNat (0 : Int)) (List.take (Int.toNat t2.2.2.2) t2.1)), (yM t2.2.1 t2.2.2.2).2)) fun r6 => some (decide (r6 < (0 : Int))) else none else none else none else some false) fun u5 => some u5) fun u4 => bif u4 then k0 (t2.1, false) else again (t2.1, t2.2.1, t2.2.2.1, (Go.IntKind.wrap .i64 (t2.2.2.2 + (1 : Int)))) else none else none else k1 t2.1
def QQ k0 k1 := zV (@JA R k0 k1) Yg
def jA (x : List y9) : Option Bool :=
 QQ (fun x7 => some x7.2) (fun x8 => some (decide ((List.length x8 : Int) ≤ (16 : Int)))) (x, x, (List.length x : Int), (0 : Int))
def yvD : List QF := [q41, q57]
def yan (t : ymG) : St := ⟨zz t.1 :: dd 4 (zz t.2.1 :: vI t.2.2.1 :: vI t.2.2.2 :: dd 41 []), []⟩
def yqQ : Gk vW := fun κ => JA (fun t => κ none ⟨zz t.1 :: .dead :: vB t.2 :: dd 46 [], []⟩) (fun t => κ (some 0) ⟨zz t :: dd 48 [], []⟩)
def yvE : Lp := lpC 2 (unG ymH yan) @yqQ lpN
theorem yvF : LF yvD yvE 39 2 Tryz.f39 0 yan @yqQ fun t => t := fun R κ again t => by kernel_rfl
theorem yvG : LK yvD yvE 39 Tryz.f39 0 := lkN (u := (unG ymH yan)) (yu fun t => by kernel_rfl) yvF
theorem yBO : EV yvD yvE 39 Tryz.f39 yz8 [(.sl 91 yl)] [.bool] jA := fun x => by kernel_rfl
def q39 : QF := ⟨39, jA, okN (n := 1) Tryz.func39 ⟨yvG, trivial⟩ yBO⟩
def jB (x : Int) : Option Bool :=
 Option.bind (yD (x, (0 : Int), (65535 : Int))) fun r1 => some r1
theorem yBP : EV [q41] lpN 34 Tryz.f34 yz9 [(.int .i64)] [.bool] jB := fun x => by kernel_rfl
def q34 : QF := ⟨34, jB, okN (n := 0) Tryz.func34 trivial yBP⟩
abbrev KP : Type := ymI
def jR (k0 : yxI → Option R) (k1 : List y8 → Option R) (again : KP → Option R) (t2 : KP) : Option R :=
 bif (decide (t2.2.2.2 < t2.2.2.1)) then if (0 : Int) ≤ t2.2.2.2 then if t2.2.2.2 < (List.length t2.2.1 : Int) then Option.bind (yD ((yo t2.2.1 t2.2.2.2).1, (0 : Int), (999 : Int))) fun r1 => Option.bind (bif (!r1) then some true else Option.bind (jB ((yo t2.2.1 t2.2.2.2).2.2)) fun r3 => some (!r3)) fun u2 => Option.bind (bif u2 then some true else Option.bind (bif ((yo t2.2.1 t2.2.2.2).2.2 != (0 : Int)) then some (!((yo t2.2.1 t2.2.2.2).2.1)) else some false) fun u5 => some u5) fun u4 => bif u4 then k0 (t2.1, false) else again (t2.1, t2.2.1, t2.2.2.1, (Go.IntKind.wrap .i64 (t2.2.2.2 + (1 : Int)))) else none else none else k1 t2.1
def Q7 k0 k1 := zV (@jR R k0 k1) Yg
def ZM (x : List y8) : Option Bool :=
 Q7 (fun x6 => some x6.2) (fun x7 => some ((List.length x7 : Int) == (24 : Int))) (x, x, (List.length x : Int), (0 : Int))
def yvH : List QF := [q34, q41]
def yao (t : ymI) : St := ⟨z7 t.1 :: dd 4 (z7 t.2.1 :: vI t.2.2.1 :: vI t.2.2.2 :: dd 27 []), []⟩
def yqR : Gk KP := fun κ => jR (fun t => κ none ⟨z7 t.1 :: .dead :: vB t.2 :: dd 32 [], []⟩) (fun t => κ (some 0) ⟨z7 t :: dd 34 [], []⟩)
def yvI : Lp := lpC 2 (unG ymJ yao) @yqR lpN
theorem yvJ : LF yvH yvI 40 2 Tryz.f40 0 yao @yqR fun t => t := fun R κ again t => by kernel_rfl
theorem yvK : LK yvH yvI 40 Tryz.f40 0 := lkN (u := (unG ymJ yao)) (yu fun t => by kernel_rfl) yvJ
theorem yBQ : EV yvH yvI 40 Tryz.f40 yza [(.sl 79 yg)] [.bool] ZM := fun x => by kernel_rfl
def q40 : QF := ⟨40, ZM, okN (n := 1) Tryz.func40 ⟨yvK, trivial⟩ yBQ⟩
abbrev vX : Type := yrV
def vY (k0 : yxr → Option R) (k1 : ByteArray → Option R) (again : vX → Option R) (t2 : vX) : Option R :=
 bif (decide (t2.2 < ((ByteArray.size t2.1 : Nat) : Int))) then if (0 : Int) ≤ t2.2 then if h1 : Int.toNat t2.2 < ByteArray.size t2.1 then Option.bind (yD ((Go.IntKind.wrap .i64 ((UInt8.toNat (ByteArray.get t2.1 (Int.toNat t2.2) h1) : Nat) : Int)), (97 : Int), (122 : Int))) fun r2 => Option.bind (bif (!r2) then if (0 : Int) ≤ t2.2 then if h4 : Int.toNat t2.2 < ByteArray.size t2.1 then Option.bind (yD ((Go.IntKind.wrap .i64 ((UInt8.toNat (ByteArray.get t2.1 (Int.toNat t2.2) h4) : Nat) : Int)), (48 : Int), (57 : Int))) fun r5 => some (!r5) else none else none else some false) fun u3 => bif u3 then k0 (t2.1, false) else again (t2.1, (Go.IntKind.wrap .i64 (t2.2 + (1 : Int)))) else none else none else k1 t2.1
def QR k0 k1 := zV (@vY R k0 k1) Yg
def Zw (x : ByteArray) : Option Bool :=
 QR (fun x6 => some x6.2) (fun x7 => Option.bind (yD (((ByteArray.size x7 : Nat) : Int), (1 : Int), (6 : Int))) fun r8 => some r8) (x, (0 : Int))
def yvL : List QF := [q41]
def yap (t : yrV) : St := ⟨vS t.1 :: dd 2 (vI t.2 :: dd 23 []), []⟩
def yqS : Gk vX := fun κ => vY (fun t => κ none ⟨vS t.1 :: .dead :: vB t.2 :: dd 24 [], []⟩) (fun t => κ (some 0) ⟨vS t :: dd 26 [], []⟩)
def yvM : Lp := lpC 2 (unG yrW yap) @yqS lpN
theorem yvN : LF yvL yvM 22 2 Tryz.f22 0 yap @yqS fun t => t := fun R κ again t => by kernel_rfl
theorem yvO : LK yvL yvM 22 Tryz.f22 0 := lkN (u := (unG yrW yap)) (yu fun t => by kernel_rfl) yvN
theorem yBR : EV yvL yvM 22 Tryz.f22 yzb [.str] [.bool] Zw := fun x => by kernel_rfl
def q22 : QF := ⟨22, Zw, okN (n := 1) Tryz.func22 ⟨yvO, trivial⟩ yBR⟩
abbrev vZ : Type := ymK
def JB (k0 : List yd → Option R) (again : vZ → Option R) (t5 : vZ) : Option R :=
 bif (decide (t5.2.2.2.1 < t5.2.2.1)) then if (0 : Int) ≤ t5.2.2.2.1 then if t5.2.2.2.1 < (List.length t5.2.1 : Int) then bif ((yM t5.2.1 t5.2.2.2.1).2 == t5.1) then if (List.length t5.2.2.2.2 + List.length ([(yM t5.2.1 t5.2.2.2.1).1] : List yd)) * 8 < 140737488355328 then again (t5.1, t5.2.1, t5.2.2.1, (Go.IntKind.wrap .i64 (t5.2.2.2.1 + (1 : Int))), (t5.2.2.2.2 ++ ([(yM t5.2.1 t5.2.2.2.1).1] : List yd))) else none else again (t5.1, t5.2.1, t5.2.2.1, (Go.IntKind.wrap .i64 (t5.2.2.2.1 + (1 : Int))), t5.2.2.2.2) else none else none else k0 t5.2.2.2.2
def QS k0 := zV (@JB R k0) Yg
def WV (x : yfB) : Option (List yd) :=
 bif (x.2 == (0 : Int)) then some ([] : List yd) else QS (fun x1 => some x1) (x.2, x.1, (List.length x.1 : Int), (0 : Int), ([] : List yd))
def yvP : List QF := []
def yaq (t : ymK) : St := ⟨.dead :: vI t.1 :: dd 3 (.own 10000000 :: dd 6 (zz t.2.1 :: vI t.2.2.1 :: vI t.2.2.2.1 :: dd 14 [])), [(10000000, .root true 3 yf t.2.2.2.2)]⟩
def yqT : Gk vZ := fun κ => JB (fun t => κ (some 0) ⟨dd 5 (.own 10000000 :: dd 23 []), [(10000000, .root true 3 yf t)]⟩)
def yvQ : Lp := lpC 5 (unG ymL yaq) @yqT lpN
theorem yvR : LF yvP yvQ 69 5 Tryz.f69 0 yaq @yqT fun t => t := fun R κ again t => by kernel_rfl
theorem yvS : LK yvP yvQ 69 Tryz.f69 0 := lkN (u := (unG ymL yaq)) (yu fun t => by kernel_rfl) yvR
theorem yBS : EV yvP yvQ 69 Tryz.f69 yzc yfC [(.sl 3 yf)] WV := fun x => by kernel_rfl
def q69 : QF := ⟨69, WV, okN (n := 1) Tryz.func69 ⟨yvS, trivial⟩ yBS⟩
def WW (x : yt0) : Option ymM :=
 some ((x.2.1 == x.2.2.2.2.2.1), x.2.2.2.2.1, x.2.2.2.2.2.1, x.2.2.2.2.2.2.1, x.2.2.2.2.2.2.2)
theorem yBT : EV [] lpN 71 Tryz.f71 yzd yt1 ymN WW := fun x => by kernel_rfl
def q71 : QF := ⟨71, WW, okN (n := 0) Tryz.func71 trivial yBT⟩
abbrev zK : Type := ymO
def yT (k0 : ymQ → Option R) (k1 : yt3 → Option R) (again : zK → Option R) (t2 : zK) : Option R :=
 bif (decide (t2.2.2.1 < t2.2.1)) then if (0 : Int) ≤ t2.2.2.1 then if t2.2.2.1 < (List.length t2.1 : Int) then Option.bind (WW ((ya t2.1 t2.2.2.1).1, (ya t2.1 t2.2.2.1).2.1, (ya t2.1 t2.2.2.1).2.2.1, (ya t2.1 t2.2.2.1).2.2.2, t2.2.2.2.1, t2.2.2.2.2.1, t2.2.2.2.2.2.1, t2.2.2.2.2.2.2)) fun r1 => bif r1.1 then k0 (t2.2.2.1, r1.2) else again (t2.1, t2.2.1, (Go.IntKind.wrap .i64 (t2.2.2.1 + (1 : Int))), r1.2.1, r1.2.2.1, r1.2.2.2.1, r1.2.2.2.2) else none else none else k1 t2.2.2.2
def YH k0 k1 := zV (@yT R k0 k1) Yg
def z3 (x : ys9) : Option ymQ :=
 YH (fun x2 => some x2) (fun x3 => some ((-1 : Int), x3.1, x3.2.1, x3.2.2.1, x3.2.2.2)) (x.1, (List.length x.1 : Int), (0 : Int), x.2.1, x.2.2.1, x.2.2.2.1, x.2.2.2.2)
def y7j : List QF := [q71]
def y15 (t : ymO) : St := ⟨Yh t.1 :: .clo 71 901 :: dd 5 (vI t.2.1 :: vI t.2.2.1 :: dd 10 []), [(901, .box [vS t.2.2.2.1, vI t.2.2.2.2.1, vI t.2.2.2.2.2.1, vB t.2.2.2.2.2.2])]⟩
def y8L : Gk zK := fun κ => yT (fun t => κ none ⟨.dead :: .clo 71 901 :: dd 2 (vI t.1 :: dd 14 []), [(901, .box [vS t.2.1, vI t.2.2.1, vI t.2.2.2.1, vB t.2.2.2.2])]⟩) (fun t => κ (some 0) ⟨.dead :: .clo 71 901 :: dd 17 [], [(901, .box [vS t.1, vI t.2.1, vI t.2.2.1, vB t.2.2.2])]⟩)
def y7k : Lp := lpC 2 (unG ymP y15) @y8L lpN
theorem yeN : LF y7j y7k 100002 2 Tryz.f51 0 y15 @y8L fun t => t := fun R κ again t => by kernel_rfl
theorem yeO : LK y7j y7k 100002 Tryz.f51 0 := lkN (u := (unG ymP y15)) (yu fun t => by kernel_rfl) yeN
theorem ygM : EV y7j y7k 100002 Tryz.f51 ybI ysa yt2 z3 := fun x => by kernel_rfl
def ykY : QF := ⟨100002, z3, okN (n := 1) Tryz.func51 ⟨yeO, trivial⟩ ygM⟩
def yB (x : ys9) : Option ymM :=
 Option.bind (z3 x) fun r1 => some ((decide (r1.1 ≥ (0 : Int))), r1.2.1, r1.2.2.1, r1.2.2.2.1, r1.2.2.2.2)
theorem ygN : EV [ykY] lpN 100001 Tryz.f70 ybJ ysa ymN yB := fun x => by kernel_rfl
def ykZ : QF := ⟨100001, yB, okN (n := 0) Tryz.func70 trivial ygN⟩
abbrev V0 : Type := ymR
def JC (k0 : yi6 → Option R) (k1 : Qz9 → Option R) (again : V0 → Option R) (t2 : V0) : Option R :=
 bif (decide (t2.2.2.1 < t2.2.1)) then if (0 : Int) ≤ t2.2.2.1 then if t2.2.2.1 < (List.length t2.1 : Int) then Option.bind (Zw ((ya t2.1 t2.2.2.1).1)) fun r1 => Option.bind (bif (!r1) then some true else Option.bind (bif (decide (t2.2.2.1 > (0 : Int))) then if (0 : Int) ≤ (Go.IntKind.wrap .i64 (t2.2.2.1 - (1 : Int))) then if (Go.IntKind.wrap .i64 (t2.2.2.1 - (1 : Int))) < (List.length t2.2.2.2.2.2.2.2.1 : Int) then some (!Go.Op.bytesLess (ByteArray.toList ((ya t2.2.2.2.2.2.2.2.1 (Go.IntKind.wrap .i64 (t2.2.2.1 - (1 : Int)))).1)) (ByteArray.toList ((ya t2.1 t2.2.2.1).1))) else none else none else some false) fun u3 => some u3) fun u2 => Option.bind (bif u2 then some true else Option.bind (yD ((ya t2.1 t2.2.2.1).2.2.1, (1 : Int), (12 : Int))) fun r5 => some (!r5)) fun u4 => bif u4 then k0 (false, t2.2.2.2) else Option.bind (YB (t2.2.2.2.2.2.1, (ya t2.1 t2.2.2.1).2.1)) fun r6 => Option.bind (bif (decide (r6 < (0 : Int))) then some true else Option.bind (WV (t2.2.2.2.2.2.1, (ya t2.1 t2.2.2.1).2.1)) fun r8 => some (decide ((List.length r8 : Int) > (0 : Int)))) fun u7 => bif u7 then k0 (false, t2.2.2.2) else if (0 : Int) ≤ (0 : Int) then if (0 : Int) ≤ t2.2.2.1 then if t2.2.2.1 ≤ (List.length t2.2.2.2.2.2.2.2.1 : Int) then Option.bind (yB ((List.drop (Int.toNat (0 : Int)) (List.take (Int.toNat t2.2.2.1) t2.2.2.2.2.2.2.2.1)), (ya t2.1 t2.2.2.1).1, (ya t2.1 t2.2.2.1).2.1, (ya t2.1 t2.2.2.1).2.2.1, (ya t2.1 t2.2.2.1).2.2.2)) fun r9 => bif r9.1 then k0 (false, t2.2.2.2) else again (t2.1, t2.2.1, (Go.IntKind.wrap .i64 (t2.2.2.1 + (1 : Int))), t2.2.2.2.1, t2.2.2.2.2.1, t2.2.2.2.2.2.1, t2.2.2.2.2.2.2.1, t2.2.2.2.2.2.2.2.1, t2.2.2.2.2.2.2.2.2) else none else none else none else none else none else k1 t2.2.2.2
def QT k0 k1 := zV (@JC R k0 k1) Yg
def WX (x : Qz9) : Option Bool :=
 QT (fun x10 => some x10.1) (fun x11 => some (decide ((List.length x11.2.2.2.2.1 : Int) ≤ (6 : Int)))) (x.2.2.2.2.1, (List.length x.2.2.2.2.1 : Int), (0 : Int), x.1, x.2.1, x.2.2.1, x.2.2.2.1, x.2.2.2.2.1, x.2.2.2.2.2)
def yvT : List QF := [q22, q41, q57, q69, ykZ]
def yar (t : ymR) : St := ⟨.dead :: .box 1 0 :: dd 4 (Yh t.1 :: vI t.2.1 :: vI t.2.2.1 :: dd 56 []), [(1, .box [zj t.2.2.2.1, yJ t.2.2.2.2.1, zz t.2.2.2.2.2.1, z7 t.2.2.2.2.2.2.1, Yh t.2.2.2.2.2.2.2.1, vI t.2.2.2.2.2.2.2.2])]⟩
def yqU : Gk V0 := fun κ => JC (fun t => κ none ⟨.dead :: .box 1 0 :: vB t.1 :: dd 62 [], [(1, .box [zj t.2.1, yJ t.2.2.1, zz t.2.2.2.1, z7 t.2.2.2.2.1, Yh t.2.2.2.2.2.1, vI t.2.2.2.2.2.2])]⟩) (fun t => κ (some 0) ⟨.dead :: .box 1 0 :: dd 63 [], [(1, .box [zj t.1, yJ t.2.1, zz t.2.2.1, z7 t.2.2.2.1, Yh t.2.2.2.2.1, vI t.2.2.2.2.2])]⟩)
def yvU : Lp := lpC 2 (unG ymS yar) @yqU lpN
theorem yvV : LF yvT yvU 42 2 Tryz.f42 0 yar @yqU fun t => t := fun R κ again t => by kernel_rfl
theorem yvW : LK yvT yvU 42 Tryz.f42 0 := lkN (u := (unG ymS yar)) (yu fun t => by kernel_rfl) yvV
theorem yBU : EV yvT yvU 42 Tryz.f42 yze qz9 [.bool] WX := fun x => by kernel_rfl
def q42 : QF := ⟨42, WX, okN (n := 1) Tryz.func42 ⟨yvW, trivial⟩ yBU⟩
abbrev WY : Type := ymT
def Zx (k0 : Int → Option R) (again : WY → Option R) (t3 : WY) : Option R :=
 bif (decide (t3.2.2.2 < t3.2.2.1)) then if (0 : Int) ≤ t3.2.2.2 then if t3.2.2.2 < (List.length t3.2.1 : Int) then bif (yo t3.2.1 t3.2.2.2).2.1 then again ((Go.IntKind.wrap .i64 (t3.1 + (1 : Int))), t3.2.1, t3.2.2.1, (Go.IntKind.wrap .i64 (t3.2.2.2 + (1 : Int)))) else again (t3.1, t3.2.1, t3.2.2.1, (Go.IntKind.wrap .i64 (t3.2.2.2 + (1 : Int)))) else none else none else k0 t3.1
def Vu k0 := zV (@Zx R k0) Yg
def YN (x : List y8) : Option Int :=
 Vu (fun x1 => some x1) ((0 : Int), x, (List.length x : Int), (0 : Int))
def yvX : List QF := []
def yas (t : ymT) : St := ⟨dd 3 (vI t.1 :: dd 2 (z7 t.2.1 :: vI t.2.2.1 :: vI t.2.2.2 :: dd 9 [])), []⟩
def yqV : Gk WY := fun κ => Zx (fun t => κ (some 0) ⟨dd 3 (vI t :: dd 14 []), []⟩)
def yvY : Lp := lpC 3 (unG ymU yas) @yqV lpN
theorem yvZ : LF yvX yvY 14 3 Tryz.f14 0 yas @yqV fun t => t := fun R κ again t => by kernel_rfl
theorem yw0 : LK yvX yvY 14 Tryz.f14 0 := lkN (u := (unG ymU yas)) (yu fun t => by kernel_rfl) yvZ
theorem yBV : EV yvX yvY 14 Tryz.f14 yzf [(.sl 79 yg)] [(.int .i64)] YN := fun x => by kernel_rfl
def q14 : QF := ⟨14, YN, okN (n := 1) Tryz.func14 ⟨yw0, trivial⟩ yBV⟩
abbrev kW : Type := ymV
def j8 (k0 : List y7 → Option R) (again : kW → Option R) (t3 : kW) : Option R :=
 bif (decide (t3.2.2.1 < t3.2.1)) then if (0 : Int) ≤ t3.2.2.1 then if t3.2.2.1 < (List.length t3.1 : Int) then Option.bind (yP (ye t3.1 t3.2.2.1)) fun r1 => if (List.length t3.2.2.2 + List.length r1) * 40 < 140737488355328 then again (t3.1, t3.2.1, (Go.IntKind.wrap .i64 (t3.2.2.1 + (1 : Int))), (t3.2.2.2 ++ r1)) else none else none else none else k0 t3.2.2.2
def qg k0 := zV (@j8 R k0) Yg
def zD (x : Qz8) : Option (List y7) :=
 qg (fun x2 => some x2) (x.2, (List.length x.2 : Int), (0 : Int), ([] : List y7))
def yw1 : List QF := [q37]
def yat (t : ymV) : St := ⟨dd 3 (.own 10000000 :: dd 4 (yJ t.1 :: vI t.2.1 :: vI t.2.2.1 :: dd 9 [])), [(10000000, .root true 81 yh t.2.2.2)]⟩
def yqW : Gk kW := fun κ => j8 (fun t => κ (some 0) ⟨dd 3 (.own 10000000 :: dd 16 []), [(10000000, .root true 81 yh t)]⟩)
def yw2 : Lp := lpC 3 (unG ymW yat) @yqW lpN
theorem yw3 : LF yw1 yw2 15 3 Tryz.f15 0 yat @yqW fun t => t := fun R κ again t => by kernel_rfl
theorem yw4 : LK yw1 yw2 15 Tryz.f15 0 := lkN (u := (unG ymW yat)) (yu fun t => by kernel_rfl) yw3
theorem yBW : EV yw1 yw2 15 Tryz.f15 yzg qz8 [(.sl 81 yh)] zD := fun x => by kernel_rfl
def q15 : QF := ⟨15, zD, okN (n := 1) Tryz.func15 ⟨yw4, trivial⟩ yBW⟩
def w9 (x : ylN) : Option yxN :=
 Option.bind (yD (x.2.1, (0 : Int), (Go.IntKind.wrap .i64 ((List.length x.1 : Int) - (1 : Int))))) fun r1 => Option.bind (bif (!r1) then some true else if (0 : Int) ≤ x.2.1 then if x.2.1 < (List.length x.1 : Int) then some (!((yo x.1 x.2.1).2.1)) else none else none) fun u2 => Option.bind (bif u2 then some true else if (0 : Int) ≤ x.2.1 then if x.2.1 < (List.length x.1 : Int) then some ((yo x.1 x.2.1).1 != x.2.2) else none else none) fun u3 => bif u3 then some ((0 : Int), false) else if (0 : Int) ≤ x.2.1 then if x.2.1 < (List.length x.1 : Int) then some ((yo x.1 x.2.1).2.2, true) else none else none
theorem yBX : EV [q41] lpN 60 Tryz.f60 yzh ylO yxO w9 := fun x => by kernel_rfl
def q60 : QF := ⟨60, w9, okN (n := 0) Tryz.func60 trivial yBX⟩
abbrev KQ : Type := ymX
def jS (k0 : ysJ → Option R) (k1 : yfD → Option R) (again : KQ → Option R) (t4 : KQ) : Option R :=
 bif (decide (t4.2.2.1 < t4.2.1)) then if (0 : Int) ≤ t4.2.2.1 then if t4.2.2.1 < (List.length t4.2.2.2.2.2.2.2.2.2.2 : Int) then Option.bind (YB (t4.2.2.2.2.2.1, (y6 t4.2.2.2.2.2.2.2.2.2.2 t4.2.2.1).2.1)) fun r2 => bif (decide (r2 < (0 : Int))) then k0 (false, t4.1, t4.2.2.2.1, t4.2.2.2.2.1, t4.2.2.2.2.2.1, t4.2.2.2.2.2.2.1, t4.2.2.2.2.2.2.2.1, t4.2.2.2.2.2.2.2.2.1) else bif ((y6 t4.2.2.2.2.2.2.2.2.2.2 t4.2.2.1).2.2.1 != (1 : Int)) then again (t4.1, t4.2.1, (Go.IntKind.wrap .i64 (t4.2.2.1 + (1 : Int))), t4.2.2.2.1, t4.2.2.2.2.1, t4.2.2.2.2.2.1, t4.2.2.2.2.2.2.1, t4.2.2.2.2.2.2.2.1, t4.2.2.2.2.2.2.2.2.1, t4.2.2.2.2.2.2.2.2.2.1, t4.2.2.2.2.2.2.2.2.2.2) else Option.bind (w9 (t4.2.2.2.2.2.2.1, (y6 t4.2.2.2.2.2.2.2.2.2.2 t4.2.2.1).2.2.2.1, (y6 t4.2.2.2.2.2.2.2.2.2.2 t4.2.2.1).2.2.2.2)) fun r3 => Option.bind (bif (!r3.2) then some true else if (0 : Int) ≤ (y6 t4.2.2.2.2.2.2.2.2.2.2 t4.2.2.1).2.2.2.1 then if (y6 t4.2.2.2.2.2.2.2.2.2.2 t4.2.2.1).2.2.2.1 < (List.length t4.2.2.2.2.2.2.2.2.2.1 : Int) then some (yel t4.2.2.2.2.2.2.2.2.2.1 ((y6 t4.2.2.2.2.2.2.2.2.2.2 t4.2.2.1).2.2.2.1)) else none else none) fun u4 => bif u4 then k0 (false, t4.1, t4.2.2.2.1, t4.2.2.2.2.1, t4.2.2.2.2.2.1, t4.2.2.2.2.2.2.1, t4.2.2.2.2.2.2.2.1, t4.2.2.2.2.2.2.2.2.1) else if (0 : Int) ≤ (y6 t4.2.2.2.2.2.2.2.2.2.2 t4.2.2.1).2.2.2.1 then if (y6 t4.2.2.2.2.2.2.2.2.2.2 t4.2.2.1).2.2.2.1 < (List.length t4.2.2.2.2.2.2.2.2.2.1 : Int) then again ((Go.IntKind.wrap .i64 (t4.1 + (1 : Int))), t4.2.1, (Go.IntKind.wrap .i64 (t4.2.2.1 + (1 : Int))), t4.2.2.2.1, t4.2.2.2.2.1, t4.2.2.2.2.2.1, t4.2.2.2.2.2.2.1, t4.2.2.2.2.2.2.2.1, t4.2.2.2.2.2.2.2.2.1, (List.set t4.2.2.2.2.2.2.2.2.2.1 (Int.toNat ((y6 t4.2.2.2.2.2.2.2.2.2.2 t4.2.2.1).2.2.2.1)) true), t4.2.2.2.2.2.2.2.2.2.2) else none else none else none else none else k1 (t4.1, t4.2.2.2.1, t4.2.2.2.2.1, t4.2.2.2.2.2.1, t4.2.2.2.2.2.2.1, t4.2.2.2.2.2.2.2.1, t4.2.2.2.2.2.2.2.2.1)
def Q8 k0 k1 := zV (@jS R k0 k1) Yg
def wG (x : Qz9) : Option Bool :=
 if (0 : Int) ≤ (24 : Int) then if (24 : Int) ≤ (24 : Int) then if (24 : Int) * ((1 : Nat) : Int) ≤ 140737488351232 then Option.bind (zD (x.1, x.2.1)) fun r1 => Q8 (fun x5 => some x5.1) (fun x6 => Option.bind (YN x6.2.2.2.2.1) fun r7 => some (r7 == x6.1)) ((0 : Int), (List.length r1 : Int), (0 : Int), x.1, x.2.1, x.2.2.1, x.2.2.2.1, x.2.2.2.2.1, x.2.2.2.2.2, (List.replicate (Int.toNat (24 : Int)) yek), r1) else none else none else none
def yw5 : List QF := [q14, q15, q57, q60]
def yau (t : ymX) : St := ⟨.dead :: .box 1 0 :: .dead :: .own 10000000 :: vI t.1 :: dd 7 (.own 10000001 :: vI t.2.1 :: vI t.2.2.1 :: dd 43 []), [(1, .box [zj t.2.2.2.1, yJ t.2.2.2.2.1, zz t.2.2.2.2.2.1, z7 t.2.2.2.2.2.2.1, Yh t.2.2.2.2.2.2.2.1, vI t.2.2.2.2.2.2.2.2.1]), (10000000, .root true 4 y48 t.2.2.2.2.2.2.2.2.2.1), (10000001, .root true 81 yh t.2.2.2.2.2.2.2.2.2.2)]⟩
def yqX : Gk KQ := fun κ => jS (fun t => κ none ⟨.dead :: .box 1 0 :: vB t.1 :: .dead :: vI t.2.1 :: dd 53 [], [(1, .box [zj t.2.2.1, yJ t.2.2.2.1, zz t.2.2.2.2.1, z7 t.2.2.2.2.2.1, Yh t.2.2.2.2.2.2.1, vI t.2.2.2.2.2.2.2])]⟩) (fun t => κ (some 0) ⟨.dead :: .box 1 0 :: dd 2 (vI t.1 :: dd 53 []), [(1, .box [zj t.2.1, yJ t.2.2.1, zz t.2.2.2.1, z7 t.2.2.2.2.1, Yh t.2.2.2.2.2.1, vI t.2.2.2.2.2.2])]⟩)
def yw6 : Lp := lpC 4 (unG ymY yau) @yqX lpN
theorem yw7 : LF yw5 yw6 43 4 Tryz.f43 0 yau @yqX fun t => t := fun R κ again t => by kernel_rfl
theorem yw8 : LK yw5 yw6 43 Tryz.f43 0 := lkN (u := (unG ymY yau)) (yu fun t => by kernel_rfl) yw7
theorem yBY : EV yw5 yw6 43 Tryz.f43 yzi qz9 [.bool] wG := fun x => by kernel_rfl
def q43 : QF := ⟨43, wG, okN (n := 1) Tryz.func43 ⟨yw8, trivial⟩ yBY⟩
abbrev V1 : Type := ymZ
def JD (k0 : yi6 → Option R) (k1 : Qz9 → Option R) (again : V1 → Option R) (t4 : V1) : Option R :=
 bif (decide (t4.2.2.1 < t4.2.1)) then if (0 : Int) ≤ t4.2.2.1 then if t4.2.2.1 < (List.length t4.1 : Int) then bif (decide ((yM t4.1 t4.2.2.1).1 ≥ t4.2.2.2.2.2.2.2.2)) then k0 (false, t4.2.2.2) else again (t4.1, t4.2.1, (Go.IntKind.wrap .i64 (t4.2.2.1 + (1 : Int))), t4.2.2.2.1, t4.2.2.2.2.1, t4.2.2.2.2.2.1, t4.2.2.2.2.2.2.1, t4.2.2.2.2.2.2.2.1, t4.2.2.2.2.2.2.2.2) else none else none else k1 t4.2.2.2
def QU k0 k1 := zV (@JD R k0 k1) Yg
def Yy (x : Qz9) : Option Bool :=
 Option.bind (Yx (x.1, x.2.1)) fun r1 => Option.bind (bif (!r1) then some true else Option.bind (jA x.2.2.1) fun r3 => some (!r3)) fun u2 => Option.bind (bif u2 then some true else Option.bind (ZM x.2.2.2.1) fun r5 => some (!r5)) fun u4 => Option.bind (bif u4 then some true else Option.bind (yD (x.2.2.2.2.2, (1 : Int), (61 : Int))) fun r7 => some (!r7)) fun u6 => bif u6 then some false else QU (fun x8 => some x8.1) (fun x9 => Option.bind (WX x9) fun r10 => Option.bind (bif r10 then Option.bind (wG x9) fun r12 => some r12 else some false) fun u11 => some u11) (x.2.2.1, (List.length x.2.2.1 : Int), (0 : Int), x.1, x.2.1, x.2.2.1, x.2.2.2.1, x.2.2.2.2.1, x.2.2.2.2.2)
def yw9 : List QF := [q38, q39, q40, q41, q42, q43]
def yav (t : ymZ) : St := ⟨.dead :: .box 1 0 :: dd 26 (zz t.1 :: vI t.2.1 :: vI t.2.2.1 :: dd 15 []), [(1, .box [zj t.2.2.2.1, yJ t.2.2.2.2.1, zz t.2.2.2.2.2.1, z7 t.2.2.2.2.2.2.1, Yh t.2.2.2.2.2.2.2.1, vI t.2.2.2.2.2.2.2.2])]⟩
def yqY : Gk V1 := fun κ => JD (fun t => κ none ⟨.dead :: .box 1 0 :: vB t.1 :: dd 43 [], [(1, .box [zj t.2.1, yJ t.2.2.1, zz t.2.2.2.1, z7 t.2.2.2.2.1, Yh t.2.2.2.2.2.1, vI t.2.2.2.2.2.2])]⟩) (fun t => κ (some 0) ⟨.dead :: .box 1 0 :: dd 44 [], [(1, .box [zj t.1, yJ t.2.1, zz t.2.2.1, z7 t.2.2.2.1, Yh t.2.2.2.2.1, vI t.2.2.2.2.2])]⟩)
def ywa : Lp := lpC 4 (unG yn0 yav) @yqY lpN
theorem ywb : LF yw9 ywa 16 4 Tryz.f16 0 yav @yqY fun t => t := fun R κ again t => by kernel_rfl
theorem ywc : LK yw9 ywa 16 Tryz.f16 0 := lkN (u := (unG yn0 yav)) (yu fun t => by kernel_rfl) ywb
theorem yBZ : EV yw9 ywa 16 Tryz.f16 yzj qz9 [.bool] Yy := fun x => by kernel_rfl
def q16 : QF := ⟨16, Yy, okN (n := 1) Tryz.func16 ⟨ywc, trivial⟩ yBZ⟩
def Km (x : yt4) : Option yn1 :=
 some (((ByteArray.toList x.1) == (ByteArray.toList x.2.2.2.2)), x.2.2.2.2)
theorem yC0 : EV [] lpN 52 Tryz.f52 yzk yt5 yn2 Km := fun x => by kernel_rfl
def q52 : QF := ⟨52, Km, okN (n := 0) Tryz.func52 trivial yC0⟩
abbrev zN : Type := yn3
def yY (k0 : ygq → Option R) (k1 : ByteArray → Option R) (again : zN → Option R) (t2 : zN) : Option R :=
 bif (decide (t2.2.2.1 < t2.2.1)) then if (0 : Int) ≤ t2.2.2.1 then if t2.2.2.1 < (List.length t2.1 : Int) then Option.bind (Km ((ya t2.1 t2.2.2.1).1, (ya t2.1 t2.2.2.1).2.1, (ya t2.1 t2.2.2.1).2.2.1, (ya t2.1 t2.2.2.1).2.2.2, t2.2.2.2)) fun r1 => bif r1.1 then k0 (t2.2.2.1, r1.2) else again (t2.1, t2.2.1, (Go.IntKind.wrap .i64 (t2.2.2.1 + (1 : Int))), r1.2) else none else none else k1 t2.2.2.2
def YR k0 k1 := zV (@yY R k0 k1) Yg
def zn (x : yt6) : Option ygq :=
 YR (fun x2 => some x2) (fun x3 => some ((-1 : Int), x3)) (x.1, (List.length x.1 : Int), (0 : Int), x.2)
def y7l : List QF := [q52]
def y16 (t : yn3) : St := ⟨Yh t.1 :: .clo 52 901 :: dd 5 (vI t.2.1 :: vI t.2.2.1 :: dd 10 []), [(901, .box [vS t.2.2.2])]⟩
def y8M : Gk zN := fun κ => yY (fun t => κ none ⟨.dead :: .clo 52 901 :: dd 2 (vI t.1 :: dd 14 []), [(901, .box [vS t.2])]⟩) (fun t => κ (some 0) ⟨.dead :: .clo 52 901 :: dd 17 [], [(901, .box [vS t])]⟩)
def y7m : Lp := lpC 2 (unG yn4 y16) @y8M lpN
theorem yeP : LF y7l y7m 100003 2 Tryz.f51 0 y16 @y8M fun t => t := fun R κ again t => by kernel_rfl
theorem yeQ : LK y7l y7m 100003 Tryz.f51 0 := lkN (u := (unG yn4 y16)) (yu fun t => by kernel_rfl) yeP
theorem ygO : EV y7l y7m 100003 Tryz.f51 ybK yt7 yn5 zn := fun x => by kernel_rfl
def yl0 : QF := ⟨100003, zn, okN (n := 1) Tryz.func51 ⟨yeQ, trivial⟩ ygO⟩
def JE (x : ymd) : Option Int :=
 Option.bind (zn (x.2.2.2.2.1, x.2.2.2.2.2.2)) fun r1 => some r1.1
theorem yC1 : EV [yl0] lpN 21 Tryz.f21 yzl yme [(.int .i64)] JE := fun x => by kernel_rfl
def q21 : QF := ⟨21, JE, okN (n := 0) Tryz.func21 trivial yC1⟩
def j9 (x : List yd) : Option (List yd) :=
 if (List.length ([] : List yd) + List.length x) * 8 < 140737488355328 then some (([] : List yd) ++ x) else none
theorem yC2 : EV [] lpN 85 Tryz.f85 yzm [(.sl 3 yf)] [(.sl 3 yf)] j9 := fun x => by kernel_rfl
def q85 : QF := ⟨85, j9, okN (n := 0) Tryz.func85 trivial yC2⟩
abbrev kX : Type := yjv ⊕ yer
def Yn (k0 : Unit → Option R) (k1 : List yb → Option R) (again : kX → Option R) : kX → Option R
 | .inl t3 => bif (decide (t3.2.2 < t3.2.1)) then if (0 : Int) ≤ t3.2.2 then if t3.2.2 < (List.length t3.1 : Int) then Option.bind (Y8 (ym t3.1 t3.2.2)) fun r1 => if List.length ([r1] : List yb) * 24 < 140737488355328 then again (Sum.inr (t3.1, t3.2.1, (Go.IntKind.wrap .i64 (t3.2.2 + (1 : Int))), ([r1] : List yb))) else none else none else none else k0 ()
 | .inr t3 => bif (decide (t3.2.2.1 < t3.2.1)) then if (0 : Int) ≤ t3.2.2.1 then if t3.2.2.1 < (List.length t3.1 : Int) then Option.bind (Y8 (ym t3.1 t3.2.2.1)) fun r2 => if (List.length t3.2.2.2 + List.length ([r2] : List yb)) * 24 < 140737488355328 then again (Sum.inr (t3.1, t3.2.1, (Go.IntKind.wrap .i64 (t3.2.2.1 + (1 : Int))), (t3.2.2.2 ++ ([r2] : List yb)))) else none else none else none else k1 t3.2.2.2
def qh k0 k1 := zV (@Yn R k0 k1) Yg
def zE (x : List yb) : Option (List yb) :=
 qh (fun x3 => some ([] : List yb)) (fun x4 => some x4) (Sum.inl (x, (List.length x : Int), (0 : Int)))
def yqZ : List QF := [yv7]
def y7n (t : yjv) : St := ⟨dd 2 (.box 2 0 :: .box 3 0 :: dd 4 (YA t.1 :: vI t.2.1 :: vI t.2.2 :: dd 12 [])), [(2, .box [.nils]), (3, .box [.nils])]⟩
theorem yl1 : ∀ s t, unG ysg y7n s = some t → y7n t = s := yu fun t => by kernel_rfl
def y7o (t : yer) : St := ⟨dd 2 (.box 2 0 :: .box 3 0 :: dd 4 (YA t.1 :: vI t.2.1 :: vI t.2.2.1 :: dd 12 [])), [(2, .box [.nils]), (3, .box [.own 10000000]), (10000000, .root true 53 yr t.2.2.2)]⟩
theorem yl2 : ∀ s t, unG yn6 y7o s = some t → y7o t = s := yu fun t => by kernel_rfl
def y7p : (yjv ⊕ yer) → St := Sum.elim y7n y7o
def yaw (s : St) : Option (yjv ⊕ yer) := ((unG ysg y7n s).map Sum.inl).or (((unG yn6 y7o) s).map Sum.inr)
theorem yl3 : ∀ s t, yaw s = some t → y7p t = s := y8C yl1 yl2
def ygP : Gk kX := fun κ => Yn (fun t => κ (some 0) ⟨dd 2 (.box 2 0 :: .box 3 0 :: dd 19 []), [(2, .box [.nils]), (3, .box [.nils])]⟩) (fun t => κ (some 0) ⟨dd 2 (.box 2 0 :: .box 3 0 :: dd 19 []), [(2, .box [.nils]), (3, .box [.own 10000000]), (10000000, .root true 53 yr t)]⟩)
def yr0 : Lp := lpC 3 yaw @ygP lpN
theorem yl4 : LF yqZ yr0 86 3 Tryz.f86 0 y7p @ygP fun v : yjv => .inl v := fun R κ again v => by kernel_rfl
theorem yl5 : LF yqZ yr0 86 3 Tryz.f86 0 y7p @ygP fun v : yer => .inr v := fun R κ again v => by kernel_rfl
theorem ywd : LF yqZ yr0 86 3 Tryz.f86 0 y7p @ygP fun t => t := (LC.sum yl4 yl5)
theorem ywe : LK yqZ yr0 86 Tryz.f86 0 := lkN (u := yaw) yl3 ywd
theorem yC3 : EV yqZ yr0 86 Tryz.f86 yzn [(.sl 53 yr)] [(.sl 53 yr)] zE := fun x => by kernel_rfl
def q86 : QF := ⟨86, zE, okN (n := 1) Tryz.func86 ⟨ywe, trivial⟩ yC3⟩
abbrev kY : Type := yes ⊕ yet
def Yo (k0 : List yd → Option R) (k1 : Qz8 → Option R) (again : kY → Option R) : kY → Option R
 | .inl t3 => bif (decide (t3.2.2.1 < t3.2.1)) then if (0 : Int) ≤ t3.2.2.1 then if t3.2.2.1 < (List.length t3.1 : Int) then Option.bind (zE (ye t3.1 t3.2.2.1)) fun r2 => if List.length ([r2] : List y0) * 24 < 140737488355328 then again (Sum.inr (t3.1, t3.2.1, (Go.IntKind.wrap .i64 (t3.2.2.1 + (1 : Int))), t3.2.2.2, ([r2] : List y0))) else none else none else none else k0 t3.2.2.2
 | .inr t3 => bif (decide (t3.2.2.1 < t3.2.1)) then if (0 : Int) ≤ t3.2.2.1 then if t3.2.2.1 < (List.length t3.1 : Int) then Option.bind (zE (ye t3.1 t3.2.2.1)) fun r3 => if (List.length t3.2.2.2.2 + List.length ([r3] : List y0)) * 24 < 140737488355328 then again (Sum.inr (t3.1, t3.2.1, (Go.IntKind.wrap .i64 (t3.2.2.1 + (1 : Int))), t3.2.2.2.1, (t3.2.2.2.2 ++ ([r3] : List y0)))) else none else none else none else k1 t3.2.2.2
def qi k0 k1 := zV (@Yo R k0 k1) Yg
def zF (x : Qz8) : Option Qz8 :=
 Option.bind (j9 x.1) fun r1 => qi (fun x4 => some (x4, ([] : List y0))) (fun x5 => some x5) (Sum.inl (x.2, (List.length x.2 : Int), (0 : Int), r1))
def yr1 : List QF := [q85, q86]
def y7q (t : yes) : St := ⟨dd 2 (.box 2 0 :: .box 3 0 :: dd 7 (yJ t.1 :: vI t.2.1 :: vI t.2.2.1 :: dd 12 [])), [(2, .box [.nils, .nils]), (3, .box [.own 10000000, .nils]), (10000000, .root true 3 yf t.2.2.2)]⟩
theorem yl6 : ∀ s t, unG yn7 y7q s = some t → y7q t = s := yu fun t => by kernel_rfl
def y7r (t : yet) : St := ⟨dd 2 (.box 2 0 :: .box 3 0 :: dd 7 (yJ t.1 :: vI t.2.1 :: vI t.2.2.1 :: dd 12 [])), [(2, .box [.nils, .nils]), (3, .box [.own 10000000, .own 10000001]), (10000000, .root true 3 yf t.2.2.2.1), (10000001, .root true 84 yk t.2.2.2.2)]⟩
theorem yl7 : ∀ s t, unG yn8 y7r s = some t → y7r t = s := yu fun t => by kernel_rfl
def y7s : (yes ⊕ yet) → St := Sum.elim y7q y7r
def yax (s : St) : Option (yes ⊕ yet) := ((unG yn7 y7q s).map Sum.inl).or (((unG yn8 y7r) s).map Sum.inr)
theorem yl8 : ∀ s t, yax s = some t → y7s t = s := y8C yl6 yl7
def ygQ : Gk kY := fun κ => Yo (fun t => κ (some 0) ⟨dd 2 (.box 2 0 :: .box 3 0 :: dd 22 []), [(2, .box [.nils, .nils]), (3, .box [.own 10000000, .nils]), (10000000, .root true 3 yf t)]⟩) (fun t => κ (some 0) ⟨dd 2 (.box 2 0 :: .box 3 0 :: dd 22 []), [(2, .box [.nils, .nils]), (3, .box [.own 10000000, .own 10000001]), (10000000, .root true 3 yf t.1), (10000001, .root true 84 yk t.2)]⟩)
def yr2 : Lp := lpC 3 yax @ygQ lpN
theorem yl9 : LF yr1 yr2 53 3 Tryz.f53 0 y7s @ygQ fun v : yes => .inl v := fun R κ again v => by kernel_rfl
theorem yla : LF yr1 yr2 53 3 Tryz.f53 0 y7s @ygQ fun v : yet => .inr v := fun R κ again v => by kernel_rfl
theorem ywf : LF yr1 yr2 53 3 Tryz.f53 0 y7s @ygQ fun t => t := (LC.sum yl9 yla)
theorem ywg : LK yr1 yr2 53 Tryz.f53 0 := lkN (u := yax) yl8 ywf
theorem yC4 : EV yr1 yr2 53 Tryz.f53 yzo qz8 qz8 zF := fun x => by kernel_rfl
def q53 : QF := ⟨53, zF, okN (n := 1) Tryz.func53 ⟨ywg, trivial⟩ yC4⟩
def zS (x : List y9) : Option (List y9) :=
 if (List.length ([] : List y9) + List.length x) * 16 < 140737488355328 then some (([] : List y9) ++ x) else none
theorem yC5 : EV [] lpN 54 Tryz.f54 yzp [(.sl 91 yl)] [(.sl 91 yl)] zS := fun x => by kernel_rfl
def q54 : QF := ⟨54, zS, okN (n := 0) Tryz.func54 trivial yC5⟩
def zG (x : List y8) : Option (List y8) :=
 if (List.length ([] : List y8) + List.length x) * 24 < 140737488355328 then some (([] : List y8) ++ x) else none
theorem yC6 : EV [] lpN 55 Tryz.f55 yzq [(.sl 79 yg)] [(.sl 79 yg)] zG := fun x => by kernel_rfl
def q55 : QF := ⟨55, zG, okN (n := 0) Tryz.func55 trivial yC6⟩
def yQ (x : Qz9) : Option Qz9 :=
 Option.bind (zF (x.1, x.2.1)) fun r1 => Option.bind (zS x.2.2.1) fun r2 => Option.bind (zG x.2.2.2.1) fun r3 => if (List.length ([] : List yc) + List.length x.2.2.2.2.1) * 40 < 140737488355328 then some (r1.1, r1.2, r2, r3, (([] : List yc) ++ x.2.2.2.2.1), x.2.2.2.2.2) else none
theorem yC7 : EV [q53, q54, q55] lpN 23 Tryz.f23 yzr qz9 qz9 yQ := fun x => by kernel_rfl
def q23 : QF := ⟨23, yQ, okN (n := 0) Tryz.func23 trivial yC7⟩
abbrev JF : Type := yeq
def WZ (k0 : yeq → Option R) (again : JF → Option R) (t2 : JF) : Option R :=
 Option.bind (bif (decide (t2.2.2.2 < (List.length t2.1 : Int))) then if (0 : Int) ≤ t2.2.2.2 then if t2.2.2.2 < (List.length t2.1 : Int) then some (decide ((yM t2.1 t2.2.2.2).1 ≤ t2.2.1)) else none else none else some false) fun u1 => bif u1 then again (t2.1, t2.2.1, t2.2.2.1, (Go.IntKind.wrap .i64 (t2.2.2.2 + (1 : Int)))) else k0 t2
def QV k0 := zV (@WZ R k0) Yg
def wc (x : ys4) : Option ymb :=
 QV (fun x2 => Option.bind (zS x2.1) fun r3 => Option.bind (zY (r3, x2.2.2.2, ([(x2.2.1, x2.2.2.1)] : List y9))) fun r4 => Option.bind (YB (x2.1, x2.2.1)) fun r5 => Option.bind (bif (decide (r5 ≥ (0 : Int))) then some true else Option.bind (jA r4) fun r7 => some (!r7)) fun u6 => bif u6 then Option.bind (zS x2.1) fun r8 => some (r8, false) else some (r4, true)) (x.1, x.2.1, x.2.2, (0 : Int))
def ywh : List QF := [q39, q54, q56, q57]
def yay (t : yeq) : St := ⟨zz t.1 :: vI t.2.1 :: vI t.2.2.1 :: dd 5 (vI t.2.2.2 :: dd 36 []), []⟩
def yr3 : Gk JF := fun κ => WZ (fun t => κ (some 0) ⟨zz t.1 :: vI t.2.1 :: vI t.2.2.1 :: dd 5 (vI t.2.2.2 :: dd 36 []), []⟩)
def ywi : Lp := lpC 2 (unG ygp yay) @yr3 lpN
theorem ywj : LF ywh ywi 24 2 Tryz.f24 0 yay @yr3 fun t => t := fun R κ again t => by kernel_rfl
theorem ywk : LK ywh ywi 24 Tryz.f24 0 := lkN (u := (unG ygp yay)) (yu fun t => by kernel_rfl) ywj
theorem yC8 : EV ywh ywi 24 Tryz.f24 yzs ys5 ysI wc := fun x => by kernel_rfl
def q24 : QF := ⟨24, wc, okN (n := 1) Tryz.func24 ⟨ywk, trivial⟩ yC8⟩
abbrev J8 : Type := yn9
def J9 (k0 : yt8 → Option R) (again : J8 → Option R) (t4 : J8) : Option R :=
 bif (decide (t4.2.2.2.1 < t4.2.2.1)) then if (0 : Int) ≤ t4.2.2.2.1 then if t4.2.2.2.1 < (List.length t4.2.1 : Int) then Option.bind (bif (!t4.1) then some (!(Go.Op.bytesLess (ByteArray.toList ((ya t4.2.1 t4.2.2.2.1).1)) (ByteArray.toList t4.2.2.2.2.1) || (ByteArray.toList ((ya t4.2.1 t4.2.2.2.1).1)) == (ByteArray.toList t4.2.2.2.2.1))) else some false) fun u1 => bif u1 then if (List.length t4.2.2.2.2.2.2.2.2 + List.length ([(t4.2.2.2.2.1, t4.2.2.2.2.2.1, t4.2.2.2.2.2.2.1, t4.2.2.2.2.2.2.2.1)] : List yc)) * 40 < 140737488355328 then if (List.length (t4.2.2.2.2.2.2.2.2 ++ ([(t4.2.2.2.2.1, t4.2.2.2.2.2.1, t4.2.2.2.2.2.2.1, t4.2.2.2.2.2.2.2.1)] : List yc)) + List.length ([((ya t4.2.1 t4.2.2.2.1).1, (ya t4.2.1 t4.2.2.2.1).2.1, (ya t4.2.1 t4.2.2.2.1).2.2.1, (ya t4.2.1 t4.2.2.2.1).2.2.2)] : List yc)) * 40 < 140737488355328 then again (true, t4.2.1, t4.2.2.1, (Go.IntKind.wrap .i64 (t4.2.2.2.1 + (1 : Int))), t4.2.2.2.2.1, t4.2.2.2.2.2.1, t4.2.2.2.2.2.2.1, t4.2.2.2.2.2.2.2.1, ((t4.2.2.2.2.2.2.2.2 ++ ([(t4.2.2.2.2.1, t4.2.2.2.2.2.1, t4.2.2.2.2.2.2.1, t4.2.2.2.2.2.2.2.1)] : List yc)) ++ ([((ya t4.2.1 t4.2.2.2.1).1, (ya t4.2.1 t4.2.2.2.1).2.1, (ya t4.2.1 t4.2.2.2.1).2.2.1, (ya t4.2.1 t4.2.2.2.1).2.2.2)] : List yc))) else none else none else if (List.length t4.2.2.2.2.2.2.2.2 + List.length ([((ya t4.2.1 t4.2.2.2.1).1, (ya t4.2.1 t4.2.2.2.1).2.1, (ya t4.2.1 t4.2.2.2.1).2.2.1, (ya t4.2.1 t4.2.2.2.1).2.2.2)] : List yc)) * 40 < 140737488355328 then again (t4.1, t4.2.1, t4.2.2.1, (Go.IntKind.wrap .i64 (t4.2.2.2.1 + (1 : Int))), t4.2.2.2.2.1, t4.2.2.2.2.2.1, t4.2.2.2.2.2.2.1, t4.2.2.2.2.2.2.2.1, (t4.2.2.2.2.2.2.2.2 ++ ([((ya t4.2.1 t4.2.2.2.1).1, (ya t4.2.1 t4.2.2.2.1).2.1, (ya t4.2.1 t4.2.2.2.1).2.2.1, (ya t4.2.1 t4.2.2.2.1).2.2.2)] : List yc))) else none else none else none else k0 (t4.1, t4.2.2.2.2)
def Vv k0 := zV (@J9 R k0) Yg
def jT (x : ys9) : Option (List yc) :=
 Vv (fun x2 => bif (!x2.1) then if (List.length x2.2.2.2.2.2 + List.length ([(x2.2.1, x2.2.2.1, x2.2.2.2.1, x2.2.2.2.2.1)] : List yc)) * 40 < 140737488355328 then some (x2.2.2.2.2.2 ++ ([(x2.2.1, x2.2.2.1, x2.2.2.2.1, x2.2.2.2.2.1)] : List yc)) else none else some x2.2.2.2.2.2) (false, x.1, (List.length x.1 : Int), (0 : Int), x.2.1, x.2.2.1, x.2.2.2.1, x.2.2.2.2, ([] : List yc))
def ywl : List QF := []
def yaz (t : yn9) : St := ⟨dd 3 (.box 3 0 :: .dead :: .own 10000000 :: vB t.1 :: dd 3 (Yh t.2.1 :: vI t.2.2.1 :: vI t.2.2.2.1 :: dd 28 [])), [(3, .box [vS t.2.2.2.2.1, vI t.2.2.2.2.2.1, vI t.2.2.2.2.2.2.1, vB t.2.2.2.2.2.2.2.1]), (10000000, .root true 40 yK t.2.2.2.2.2.2.2.2)]⟩
def yr4 : Gk J8 := fun κ => J9 (fun t => κ (some 0) ⟨dd 3 (.box 3 0 :: .dead :: .own 10000000 :: vB t.1 :: dd 34 []), [(3, .box [vS t.2.1, vI t.2.2.1, vI t.2.2.2.1, vB t.2.2.2.2.1]), (10000000, .root true 40 yK t.2.2.2.2.2)]⟩)
def ywm : Lp := lpC 4 (unG yna yaz) @yr4 lpN
theorem ywn : LF ywl ywm 25 4 Tryz.f25 0 yaz @yr4 fun t => t := fun R κ again t => by kernel_rfl
theorem ywo : LK ywl ywm 25 Tryz.f25 0 := lkN (u := (unG yna yaz)) (yu fun t => by kernel_rfl) ywn
theorem yC9 : EV ywl ywm 25 Tryz.f25 yzt ysa [(.sl 40 yK)] jT := fun x => by kernel_rfl
def q25 : QF := ⟨25, jT, okN (n := 1) Tryz.func25 ⟨ywo, trivial⟩ yC9⟩
def Yz (x : yxW) : Option y8H :=
 Option.bind (bif (!x.2.2.2.2.2.2.2.2.2.2.2.2) then some true else Option.bind (Yy (x.2.2.2.2.2.2.1, x.2.2.2.2.2.2.2.1, x.2.2.2.2.2.2.2.2.1, x.2.2.2.2.2.2.2.2.2.1, x.2.2.2.2.2.2.2.2.2.2.1, x.2.2.2.2.2.2.2.2.2.2.2.1)) fun r2 => some (!r2)) fun u1 => bif u1 then Option.bind (yQ (x.1, x.2.1, x.2.2.1, x.2.2.2.1, x.2.2.2.2.1, x.2.2.2.2.2.1)) fun r3 => some (r3.1, r3.2.1, r3.2.2.1, r3.2.2.2.1, r3.2.2.2.2.1, r3.2.2.2.2.2, (6 : Int)) else some (x.2.2.2.2.2.2.1, x.2.2.2.2.2.2.2.1, x.2.2.2.2.2.2.2.2.1, x.2.2.2.2.2.2.2.2.2.1, x.2.2.2.2.2.2.2.2.2.2.1, x.2.2.2.2.2.2.2.2.2.2.2.1, (0 : Int))
theorem yCa : EV [q16, q23] lpN 26 Tryz.f26 yzu yxX y8I Yz := fun x => by kernel_rfl
def q26 : QF := ⟨26, Yz, okN (n := 0) Tryz.func26 trivial yCa⟩
def jC (x : yxY) : Option y8H :=
 Option.bind (JE (x.1, x.2.1, x.2.2.1, x.2.2.2.1, x.2.2.2.2.1, x.2.2.2.2.2.1, x.2.2.2.2.2.2.1)) fun r1 => Option.bind (Yy (x.1, x.2.1, x.2.2.1, x.2.2.2.1, x.2.2.2.2.1, x.2.2.2.2.2.1)) fun r2 => Option.bind (bif (!r2) then some true else Option.bind (Zw x.2.2.2.2.2.2.1) fun r4 => some (!r4)) fun u3 => Option.bind (bif u3 then some true else Option.bind (Zw x.2.2.2.2.2.2.2.1) fun r6 => some (!r6)) fun u5 => bif u5 then Option.bind (yQ (x.1, x.2.1, x.2.2.1, x.2.2.2.1, x.2.2.2.2.1, x.2.2.2.2.2.1)) fun r7 => some (r7.1, r7.2.1, r7.2.2.1, r7.2.2.2.1, r7.2.2.2.2.1, r7.2.2.2.2.2, (1 : Int)) else bif (decide (r1 < (0 : Int))) then Option.bind (yQ (x.1, x.2.1, x.2.2.1, x.2.2.2.1, x.2.2.2.2.1, x.2.2.2.2.2.1)) fun r8 => some (r8.1, r8.2.1, r8.2.2.1, r8.2.2.2.1, r8.2.2.2.2.1, r8.2.2.2.2.2, (2 : Int)) else Option.bind (JE (x.1, x.2.1, x.2.2.1, x.2.2.2.1, x.2.2.2.2.1, x.2.2.2.2.2.1, x.2.2.2.2.2.2.2.1)) fun r9 => bif (decide (r9 ≥ (0 : Int))) then Option.bind (yQ (x.1, x.2.1, x.2.2.1, x.2.2.2.1, x.2.2.2.2.1, x.2.2.2.2.2.1)) fun r10 => some (r10.1, r10.2.1, r10.2.2.1, r10.2.2.2.1, r10.2.2.2.2.1, r10.2.2.2.2.2, (3 : Int)) else Option.bind (yQ (x.1, x.2.1, x.2.2.1, x.2.2.2.1, x.2.2.2.2.1, x.2.2.2.2.2.1)) fun r11 => if (0 : Int) ≤ r1 then if r1 < (List.length x.2.2.2.2.1 : Int) then Option.bind (wc (x.2.2.1, x.2.2.2.2.2.1, (ya x.2.2.2.2.1 r1).2.1)) fun r12 => Option.bind (wc (r12.1, (Go.IntKind.wrap .i64 (x.2.2.2.2.2.1 + (1 : Int))), (ya x.2.2.2.2.1 r1).2.1)) fun r13 => if (0 : Int) ≤ r1 then if r1 < (List.length r11.2.2.2.2.1 : Int) then Option.bind (jT ((List.set r11.2.2.2.2.1 (Int.toNat r1) ((ya r11.2.2.2.2.1 r1).1, x.2.2.2.2.2.1, (ya r11.2.2.2.2.1 r1).2.2)), x.2.2.2.2.2.2.2.1, (Go.IntKind.wrap .i64 (x.2.2.2.2.2.1 + (1 : Int))), (ya x.2.2.2.2.1 r1).2.2.1, x.2.2.2.2.2.2.2.2)) fun r14 => Option.bind (bif r12.2 then some r13.2 else some false) fun u15 => Option.bind (Yz (x.1, x.2.1, x.2.2.1, x.2.2.2.1, x.2.2.2.2.1, x.2.2.2.2.2.1, r11.1, r11.2.1, r13.1, r11.2.2.2.1, r14, (Go.IntKind.wrap .i64 (r11.2.2.2.2.2 + (2 : Int))), u15)) fun r16 => some r16 else none else none else none else none
theorem ev6 : EV [q16, q21, q22, q23, q24, q25, q26] lpN 6 Tryz.f6 sg6 yxZ y8I jC := fun x => by kernel_rfl
def q6 : QF := ⟨6, jC, okN (n := 0) Tryz.func6 trivial ev6⟩
def V2 (x : Qz1) : Option Int :=
 bif (decide (x.2 < (List.length x.1 : Int))) then if (0 : Int) ≤ x.2 then if x.2 < (List.length x.1 : Int) then some (Go.IntKind.wrap .i64 (ygk x.1 x.2)) else none else none else some (Int.tmod (Go.IntKind.wrap .i64 ((Go.IntKind.wrap .i64 (x.2 * (31 : Int))) + (Go.IntKind.wrap .i64 ((List.length x.1 : Int) * (7 : Int))))) (256 : Int))
theorem ev7 : EV [] lpN 7 Tryz.f7 sg7 qz1 [(.int .i64)] V2 := fun x => by kernel_rfl
def q7 : QF := ⟨7, V2, okN (n := 0) Tryz.func7 trivial ev7⟩
abbrev wd : Type := ynb
def Yp (k0 : Bool → Option R) (k1 : Unit → Option R) (again : wd → Option R) (t4 : wd) : Option R :=
 bif (decide (t4.2.2 < (List.length t4.1 : Int))) then if (0 : Int) ≤ t4.2.2 then if t4.2.2 < (List.length t4.1 : Int) then if (0 : Int) ≤ t4.2.2 then if t4.2.2 < (List.length t4.2.1 : Int) then bif ((zw t4.1 t4.2.2) != (zw t4.2.1 t4.2.2)) then k0 false else again (t4.1, t4.2.1, (Go.IntKind.wrap .i64 (t4.2.2 + (1 : Int)))) else none else none else none else none else k1 ()
def kZ k0 k1 := zV (@Yp R k0 k1) Yg
def YC (x : yt9) : Option Bool :=
 bif ((List.length x.1 : Int) != (List.length x.2 : Int)) then some false else kZ (fun x1 => some x1) (fun x2 => some true) (x.1, x.2, (0 : Int))
def ywp : List QF := []
def yaA (t : ynb) : St := ⟨zj t.1 :: zj t.2.1 :: dd 3 (vI t.2.2 :: dd 20 []), []⟩
def yr5 : Gk wd := fun κ => Yp (fun t => κ none ⟨dd 4 (vB t :: dd 21 []), []⟩) (fun t => κ (some 0) ⟨dd 26 [], []⟩)
def ywq : Lp := lpC 4 (unG ync yaA) @yr5 lpN
theorem ywr : LF ywp ywq 13 4 Tryz.f13 0 yaA @yr5 fun t => t := fun R κ again t => by kernel_rfl
theorem yws : LK ywp ywq 13 Tryz.f13 0 := lkN (u := (unG ync yaA)) (yu fun t => by kernel_rfl) ywr
theorem yCb : EV ywp ywq 13 Tryz.f13 yzv yta [.bool] YC := fun x => by kernel_rfl
def q13 : QF := ⟨13, YC, okN (n := 1) Tryz.func13 ⟨yws, trivial⟩ yCb⟩
end
end Go.Proofs.YtgediecndaheiaaGreat.XS
