/- What functions compute, and that they do; part 0 of L; by a program (dec.py). No condition. -/
import Derived.Test.YtmapoakbdgpamaaGreatXL
set_option linter.all false
namespace Go.Proofs.YtmapoakbdgpamaaGreat.XL
open Go.Proofs.YtmapoakbdgpamaaGreat.R
set_option maxRecDepth 100000
noncomputable section
variable {R : Type}
abbrev T_laws_eqByteS_4 : Type := Qz0
def S_laws_eqByteS_4 (k0 : Bool → Option R) (k1 : Unit → Option R) (again : T_laws_eqByteS_4 → Option R) (t4 : T_laws_eqByteS_4) : Option R :=
 bif (decide (t4.2.2 < ((List.length t4.1 : Nat) : Int))) then if (0 : Int) ≤ t4.2.2 then if t4.2.2 < ((List.length t4.1 : Nat) : Int) then if (0 : Int) ≤ t4.2.2 then if t4.2.2 < ((List.length t4.2.1 : Nat) : Int) then bif ((rd_u8 t4.1 t4.2.2) != (rd_u8 t4.2.1 t4.2.2)) then k0 false else again (t4.1, t4.2.1, (Go.IntKind.wrap .i64 (t4.2.2 + (1 : Int)))) else none else none else none else none else k1 ()
def L_laws_eqByteS_4 k0 k1 := iter (@S_laws_eqByteS_4 R k0 k1) FUEL
def F_laws_eqByteS (x : Qz1) : Option Bool :=
 bif (((List.length x.1 : Nat) : Int) != ((List.length x.2 : Nat) : Int)) then some false else L_laws_eqByteS_4 (fun x1 => some x1) (fun x2 => some true) (x.1, x.2, (0 : Int))
def f14Q : List QF := []
def f14e4_0 (t : Qz0) : St := ⟨v_u8 t.1 :: v_u8 t.2.1 :: dd 3 (vI t.2.2 :: dd 20 []), []⟩
def f14g4 : Gk T_laws_eqByteS_4 := fun κ => S_laws_eqByteS_4 (fun t => κ none ⟨dd 4 (vB t :: dd 21 []), []⟩) (fun t => κ (some 0) ⟨dd 26 [], []⟩)
def f14P : Lp := lpC 4 (unG qz0 f14e4_0) @f14g4 lpN
theorem f14C4 : LF f14Q f14P 14 4 Tryz.f14 0 f14e4_0 @f14g4 fun t => t := fun R κ again t => by kernel_rfl
theorem f14k4 : LK f14Q f14P 14 Tryz.f14 0 := lkN (u := (unG qz0 f14e4_0)) (unG_ok fun t => by kernel_rfl) f14C4
theorem ev14 : EV f14Q f14P 14 Tryz.f14 sg14 qz1 [.bool] F_laws_eqByteS := fun x => by kernel_rfl
def q14 : QF := ⟨14, F_laws_eqByteS, okN (n := 1) Tryz.func14 ⟨f14k4, trivial⟩ ev14⟩
abbrev T_laws_markByteS_2 : Type := Qz2
def S_laws_markByteS_2 (k0 : Qz3 → Option R) (again : T_laws_markByteS_2 → Option R) (t2 : T_laws_markByteS_2) : Option R :=
 bif (decide (t2.2.1 < ((List.length t2.2.2 : Nat) : Int))) then if (0 : Int) ≤ t2.2.1 then if t2.2.1 < ((List.length t2.2.2 : Nat) : Int) then again ((Go.IntKind.wrap .i64 (t2.1 + (1 : Int))), (Go.IntKind.wrap .i64 (t2.2.1 + (1 : Int))), (List.set t2.2.2 (Int.toNat t2.2.1) (Go.IntKind.wrap .u8 t2.1))) else none else none else k0 (t2.1, t2.2.2)
def L_laws_markByteS_2 k0 := iter (@S_laws_markByteS_2 R k0) FUEL
def F_laws_markByteS (x : Qz4) : Option Qz3 :=
 L_laws_markByteS_2 (fun x1 => some (x1.1, x1.2)) (x.2, (0 : Int), x.1)
def f17Q : List QF := []
def f17e2_0 (t : Qz2) : St := ⟨.own 10000000 :: vI t.1 :: dd 3 (vI t.2.1 :: dd 14 []), [(10000000, .deep true 1 5 ts_u8 t.2.2)]⟩
def f17g2 : Gk T_laws_markByteS_2 := fun κ => S_laws_markByteS_2 (fun t => κ (some 0) ⟨.own 10000000 :: vI t.1 :: dd 18 [], [(10000000, .deep true 1 5 ts_u8 t.2)]⟩)
def f17P : Lp := lpC 2 (unG qz2 f17e2_0) @f17g2 lpN
theorem f17C2 : LF f17Q f17P 17 2 Tryz.f17 0 f17e2_0 @f17g2 fun t => t := fun R κ again t => by kernel_rfl
theorem f17k2 : LK f17Q f17P 17 Tryz.f17 0 := lkN (u := (unG qz2 f17e2_0)) (unG_ok fun t => by kernel_rfl) f17C2
theorem ev17 : EV f17Q f17P 17 Tryz.f17 sg17 qz4 qz3 F_laws_markByteS := fun x => by kernel_rfl
def q17 : QF := ⟨17, F_laws_markByteS, okN (n := 1) Tryz.func17 ⟨f17k2, trivial⟩ ev17⟩
abbrev T_laws_heldByteS_2 : Type := Qz5
def S_laws_heldByteS_2 (k0 : Qz6 → Option R) (k1 : Int → Option R) (again : T_laws_heldByteS_2 → Option R) (t2 : T_laws_heldByteS_2) : Option R :=
 bif (decide (t2.2.2 < ((List.length t2.1 : Nat) : Int))) then if (0 : Int) ≤ t2.2.2 then if t2.2.2 < ((List.length t2.1 : Nat) : Int) then bif ((rd_u8 t2.1 t2.2.2) != (Go.IntKind.wrap .u8 t2.2.1)) then k0 (t2.2.1, (-1 : Int)) else again (t2.1, (Go.IntKind.wrap .i64 (t2.2.1 + (1 : Int))), (Go.IntKind.wrap .i64 (t2.2.2 + (1 : Int)))) else none else none else k1 t2.2.1
def L_laws_heldByteS_2 k0 k1 := iter (@S_laws_heldByteS_2 R k0 k1) FUEL
def F_laws_heldByteS (x : Qz4) : Option Int :=
 L_laws_heldByteS_2 (fun x1 => some x1.2) (fun x2 => some x2) (x.1, x.2, (0 : Int))
def f18Q : List QF := []
def f18e2_0 (t : Qz5) : St := ⟨v_u8 t.1 :: vI t.2.1 :: dd 3 (vI t.2.2 :: dd 16 []), []⟩
def f18g2 : Gk T_laws_heldByteS_2 := fun κ => S_laws_heldByteS_2 (fun t => κ none ⟨.dead :: vI t.1 :: dd 2 (vI t.2 :: dd 17 []), []⟩) (fun t => κ (some 0) ⟨.dead :: vI t :: dd 20 [], []⟩)
def f18P : Lp := lpC 2 (unG qz5 f18e2_0) @f18g2 lpN
theorem f18C2 : LF f18Q f18P 18 2 Tryz.f18 0 f18e2_0 @f18g2 fun t => t := fun R κ again t => by kernel_rfl
theorem f18k2 : LK f18Q f18P 18 Tryz.f18 0 := lkN (u := (unG qz5 f18e2_0)) (unG_ok fun t => by kernel_rfl) f18C2
theorem ev18 : EV f18Q f18P 18 Tryz.f18 sg18 qz4 [(.int .i64)] F_laws_heldByteS := fun x => by kernel_rfl
def q18 : QF := ⟨18, F_laws_heldByteS, okN (n := 1) Tryz.func18 ⟨f18k2, trivial⟩ ev18⟩
def F_laws_szByteS (x : Qz4) : Option Int :=
 bif (decide ((Go.IntKind.wrap .i64 (x.2 - ((List.length x.1 : Nat) : Int))) < (0 : Int))) then some (-1 : Int) else some (Go.IntKind.wrap .i64 (x.2 - ((List.length x.1 : Nat) : Int)))
theorem ev147 : EV [] lpN 147 Tryz.f147 sg147 qz4 [(.int .i64)] F_laws_szByteS := fun x => by kernel_rfl
def q147 : QF := ⟨147, F_laws_szByteS, okN (n := 0) Tryz.func147 trivial ev147⟩
abbrev T_laws_szByteSS_5 : Type := Qz7
def S_laws_szByteSS_5 (k0 : Qz6 → Option R) (k1 : Int → Option R) (again : T_laws_szByteSS_5 → Option R) (t5 : T_laws_szByteSS_5) : Option R :=
 bif (decide (t5.2.2 < ((List.length t5.1 : Nat) : Int))) then if (0 : Int) ≤ t5.2.2 then if t5.2.2 < ((List.length t5.1 : Nat) : Int) then Option.bind (F_laws_szByteS ((rd_s_u8 t5.1 t5.2.2), t5.2.1)) fun r1 => bif (decide (r1 < (0 : Int))) then k0 (r1, (-1 : Int)) else again (t5.1, r1, (Go.IntKind.wrap .i64 (t5.2.2 + (1 : Int)))) else none else none else k1 t5.2.1
def L_laws_szByteSS_5 k0 k1 := iter (@S_laws_szByteSS_5 R k0 k1) FUEL
def F_laws_szByteSS (x : Qz8) : Option Int :=
 bif (decide ((Go.IntKind.wrap .i64 (x.2 - ((List.length x.1 : Nat) : Int))) < (0 : Int))) then some (-1 : Int) else L_laws_szByteSS_5 (fun x2 => some x2.2) (fun x3 => some x3) (x.1, (Go.IntKind.wrap .i64 (x.2 - ((List.length x.1 : Nat) : Int))), (0 : Int))
def f69Q : List QF := [q147]
def f69e5_0 (t : Qz7) : St := ⟨v_s_u8 t.1 :: vI t.2.1 :: dd 3 (vI t.2.2 :: dd 21 []), []⟩
def f69g5 : Gk T_laws_szByteSS_5 := fun κ => S_laws_szByteSS_5 (fun t => κ none ⟨.dead :: vI t.1 :: dd 2 (vI t.2 :: dd 22 []), []⟩) (fun t => κ (some 0) ⟨.dead :: vI t :: dd 25 [], []⟩)
def f69P : Lp := lpC 5 (unG qz7 f69e5_0) @f69g5 lpN
theorem f69C5 : LF f69Q f69P 69 5 Tryz.f69 0 f69e5_0 @f69g5 fun t => t := fun R κ again t => by kernel_rfl
theorem f69k5 : LK f69Q f69P 69 Tryz.f69 0 := lkN (u := (unG qz7 f69e5_0)) (unG_ok fun t => by kernel_rfl) f69C5
theorem ev69 : EV f69Q f69P 69 Tryz.f69 sg69 qz8 [(.int .i64)] F_laws_szByteSS := fun x => by kernel_rfl
def q69 : QF := ⟨69, F_laws_szByteSS, okN (n := 1) Tryz.func69 ⟨f69k5, trivial⟩ ev69⟩
def F_laws_szWr (x : Qz9) : Option Int :=
 Option.bind (F_laws_szByteS (x.2.1, x.2.2)) fun r1 => bif (decide (r1 < (0 : Int))) then some (-1 : Int) else some r1
theorem ev148 : EV [q147] lpN 148 Tryz.f148 sg148 qz9 [(.int .i64)] F_laws_szWr := fun x => by kernel_rfl
def q148 : QF := ⟨148, F_laws_szWr, okN (n := 0) Tryz.func148 trivial ev148⟩
abbrev T_laws_szWrS_5 : Type := Qz10
def S_laws_szWrS_5 (k0 : Qz6 → Option R) (k1 : Int → Option R) (again : T_laws_szWrS_5 → Option R) (t5 : T_laws_szWrS_5) : Option R :=
 bif (decide (t5.2.2 < ((List.length t5.1 : Nat) : Int))) then if (0 : Int) ≤ t5.2.2 then if t5.2.2 < ((List.length t5.1 : Nat) : Int) then Option.bind (F_laws_szWr ((rd_LWr t5.1 t5.2.2).1, (rd_LWr t5.1 t5.2.2).2, t5.2.1)) fun r1 => bif (decide (r1 < (0 : Int))) then k0 (r1, (-1 : Int)) else again (t5.1, r1, (Go.IntKind.wrap .i64 (t5.2.2 + (1 : Int)))) else none else none else k1 t5.2.1
def L_laws_szWrS_5 k0 k1 := iter (@S_laws_szWrS_5 R k0 k1) FUEL
def F_laws_szWrS (x : Qz11) : Option Int :=
 bif (decide ((Go.IntKind.wrap .i64 (x.2 - ((List.length x.1 : Nat) : Int))) < (0 : Int))) then some (-1 : Int) else L_laws_szWrS_5 (fun x2 => some x2.2) (fun x3 => some x3) (x.1, (Go.IntKind.wrap .i64 (x.2 - ((List.length x.1 : Nat) : Int))), (0 : Int))
def f70Q : List QF := [q148]
def f70e5_0 (t : Qz10) : St := ⟨v_LWr t.1 :: vI t.2.1 :: dd 3 (vI t.2.2 :: dd 21 []), []⟩
def f70g5 : Gk T_laws_szWrS_5 := fun κ => S_laws_szWrS_5 (fun t => κ none ⟨.dead :: vI t.1 :: dd 2 (vI t.2 :: dd 22 []), []⟩) (fun t => κ (some 0) ⟨.dead :: vI t :: dd 25 [], []⟩)
def f70P : Lp := lpC 5 (unG qz10 f70e5_0) @f70g5 lpN
theorem f70C5 : LF f70Q f70P 70 5 Tryz.f70 0 f70e5_0 @f70g5 fun t => t := fun R κ again t => by kernel_rfl
theorem f70k5 : LK f70Q f70P 70 Tryz.f70 0 := lkN (u := (unG qz10 f70e5_0)) (unG_ok fun t => by kernel_rfl) f70C5
theorem ev70 : EV f70Q f70P 70 Tryz.f70 sg70 qz11 [(.int .i64)] F_laws_szWrS := fun x => by kernel_rfl
def q70 : QF := ⟨70, F_laws_szWrS, okN (n := 1) Tryz.func70 ⟨f70k5, trivial⟩ ev70⟩
def F_laws_szDev (x : Qz12) : Option Int :=
 Option.bind (F_laws_szByteSS (x.1, x.2.2.2.2)) fun r1 => bif (decide (r1 < (0 : Int))) then some (-1 : Int) else Option.bind (F_laws_szWrS (x.2.1, r1)) fun r2 => bif (decide (r2 < (0 : Int))) then some (-1 : Int) else some r2
theorem ev19 : EV [q69, q70] lpN 19 Tryz.f19 sg19 qz12 [(.int .i64)] F_laws_szDev := fun x => by kernel_rfl
def q19 : QF := ⟨19, F_laws_szDev, okN (n := 0) Tryz.func19 trivial ev19⟩
def F_spec_l1In (x : Qz13) : Option Bool :=
 Option.bind (bif (decide (x.1 ≥ x.2.1)) then some (decide (x.1 ≤ x.2.2)) else some false) fun u1 => some u1
theorem ev107 : EV [] lpN 107 Tryz.f107 sg107 qz13 [.bool] F_spec_l1In := fun x => by kernel_rfl
def q107 : QF := ⟨107, F_spec_l1In, okN (n := 0) Tryz.func107 trivial ev107⟩
abbrev T_spec_Drop_3 : Type := Qz14
def S_spec_Drop_3 (k0 : List E_Key → Option R) (again : T_spec_Drop_3 → Option R) (t3 : T_spec_Drop_3) : Option R :=
 bif (decide (t3.2.1 < ((List.length t3.1 : Nat) : Int))) then if (0 : Int) ≤ t3.2.1 then if t3.2.1 < ((List.length t3.1 : Nat) : Int) then bif ((rd_Key t3.1 t3.2.1).2.2.1 != (0 : Int)) then if (0 : Int) ≤ t3.2.1 then if t3.2.1 < ((List.length t3.1 : Nat) : Int) then if (List.length t3.2.2 + List.length ([((rd_Key t3.1 t3.2.1).1, (rd_Key t3.1 t3.2.1).2.1, (rd_Key t3.1 t3.2.1).2.2.1, (rd_Key t3.1 t3.2.1).2.2.2.1, (rd_Key t3.1 t3.2.1).2.2.2.2)] : List E_Key)) * 40 < 140737488355328 then again (t3.1, (Go.IntKind.wrap .i64 (t3.2.1 + (1 : Int))), (t3.2.2 ++ ([((rd_Key t3.1 t3.2.1).1, (rd_Key t3.1 t3.2.1).2.1, (rd_Key t3.1 t3.2.1).2.2.1, (rd_Key t3.1 t3.2.1).2.2.2.1, (rd_Key t3.1 t3.2.1).2.2.2.2)] : List E_Key))) else none else none else none else again (t3.1, (Go.IntKind.wrap .i64 (t3.2.1 + (1 : Int))), t3.2.2) else none else none else k0 t3.2.2
def L_spec_Drop_3 k0 := iter (@S_spec_Drop_3 R k0) FUEL
def F_spec_Drop (x : List E_Key) : Option (List E_Key) :=
 L_spec_Drop_3 (fun x1 => some x1) (x, (0 : Int), ([] : List E_Key))
def f235Q : List QF := []
def f235e3_0 (t : Qz14) : St := ⟨v_Key t.1 :: dd 2 (.own 10000000 :: vI t.2.1 :: dd 21 []), [(10000000, .root true 106 ts_Key t.2.2)]⟩
def f235g3 : Gk T_spec_Drop_3 := fun κ => S_spec_Drop_3 (fun t => κ (some 0) ⟨dd 3 (.own 10000000 :: dd 22 []), [(10000000, .root true 106 ts_Key t)]⟩)
def f235P : Lp := lpC 3 (unG qz14 f235e3_0) @f235g3 lpN
theorem f235C3 : LF f235Q f235P 235 3 Tryz.f235 0 f235e3_0 @f235g3 fun t => t := fun R κ again t => by kernel_rfl
theorem f235k3 : LK f235Q f235P 235 Tryz.f235 0 := lkN (u := (unG qz14 f235e3_0)) (unG_ok fun t => by kernel_rfl) f235C3
theorem ev235 : EV f235Q f235P 235 Tryz.f235 sg235 [(.sl 106 ts_Key)] [(.sl 106 ts_Key)] F_spec_Drop := fun x => by kernel_rfl
def q235 : QF := ⟨235, F_spec_Drop, okN (n := 1) Tryz.func235 ⟨f235k3, trivial⟩ ev235⟩
def F_spec_LessKey (x : Qz15) : Option Bool :=
 bif (x.1 != x.2.2.2.2.2.1) then some (decide (x.1 < x.2.2.2.2.2.1)) else some (decide (x.2.1 < x.2.2.2.2.2.2.1))
theorem ev266 : EV [] lpN 266 Tryz.f266 sg266 qz15 [.bool] F_spec_LessKey := fun x => by kernel_rfl
def q266 : QF := ⟨266, F_spec_LessKey, okN (n := 0) Tryz.func266 trivial ev266⟩
def F_spec_SameSpot (x : Qz15) : Option Bool :=
 Option.bind (bif (x.1 == x.2.2.2.2.2.1) then some (x.2.1 == x.2.2.2.2.2.2.1) else some false) fun u1 => some u1
theorem ev267 : EV [] lpN 267 Tryz.f267 sg267 qz15 [.bool] F_spec_SameSpot := fun x => by kernel_rfl
def q267 : QF := ⟨267, F_spec_SameSpot, okN (n := 0) Tryz.func267 trivial ev267⟩
abbrev T_spec_SetPut_4 : Type := Qz16
def S_spec_SetPut_4 (k0 : Qz17 → Option R) (again : T_spec_SetPut_4 → Option R) (t4 : T_spec_SetPut_4) : Option R :=
 bif (decide (t4.2.2.1 < ((List.length t4.1 : Nat) : Int))) then Option.bind (bif (!t4.2.1) then if (0 : Int) ≤ t4.2.2.1 then if t4.2.2.1 < ((List.length t4.1 : Nat) : Int) then Option.bind (F_spec_LessKey ((rd_Key t4.1 t4.2.2.1).1, (rd_Key t4.1 t4.2.2.1).2.1, (rd_Key t4.1 t4.2.2.1).2.2.1, (rd_Key t4.1 t4.2.2.1).2.2.2.1, (rd_Key t4.1 t4.2.2.1).2.2.2.2, t4.2.2.2.1, t4.2.2.2.2.1, t4.2.2.2.2.2.1, t4.2.2.2.2.2.2.1, t4.2.2.2.2.2.2.2.1)) fun r2 => some (!r2) else none else none else some false) fun u1 => bif u1 then if (List.length t4.2.2.2.2.2.2.2.2 + List.length ([(t4.2.2.2.1, t4.2.2.2.2.1, t4.2.2.2.2.2.1, t4.2.2.2.2.2.2.1, t4.2.2.2.2.2.2.2.1)] : List E_Key)) * 40 < 140737488355328 then if (0 : Int) ≤ t4.2.2.1 then if t4.2.2.1 < ((List.length t4.1 : Nat) : Int) then Option.bind (F_spec_SameSpot ((rd_Key t4.1 t4.2.2.1).1, (rd_Key t4.1 t4.2.2.1).2.1, (rd_Key t4.1 t4.2.2.1).2.2.1, (rd_Key t4.1 t4.2.2.1).2.2.2.1, (rd_Key t4.1 t4.2.2.1).2.2.2.2, t4.2.2.2.1, t4.2.2.2.2.1, t4.2.2.2.2.2.1, t4.2.2.2.2.2.2.1, t4.2.2.2.2.2.2.2.1)) fun r3 => bif (!r3) then if (0 : Int) ≤ t4.2.2.1 then if t4.2.2.1 < ((List.length t4.1 : Nat) : Int) then if (List.length (t4.2.2.2.2.2.2.2.2 ++ ([(t4.2.2.2.1, t4.2.2.2.2.1, t4.2.2.2.2.2.1, t4.2.2.2.2.2.2.1, t4.2.2.2.2.2.2.2.1)] : List E_Key)) + List.length ([((rd_Key t4.1 t4.2.2.1).1, (rd_Key t4.1 t4.2.2.1).2.1, (rd_Key t4.1 t4.2.2.1).2.2.1, (rd_Key t4.1 t4.2.2.1).2.2.2.1, (rd_Key t4.1 t4.2.2.1).2.2.2.2)] : List E_Key)) * 40 < 140737488355328 then again (t4.1, true, (Go.IntKind.wrap .i64 (t4.2.2.1 + (1 : Int))), t4.2.2.2.1, t4.2.2.2.2.1, t4.2.2.2.2.2.1, t4.2.2.2.2.2.2.1, t4.2.2.2.2.2.2.2.1, ((t4.2.2.2.2.2.2.2.2 ++ ([(t4.2.2.2.1, t4.2.2.2.2.1, t4.2.2.2.2.2.1, t4.2.2.2.2.2.2.1, t4.2.2.2.2.2.2.2.1)] : List E_Key)) ++ ([((rd_Key t4.1 t4.2.2.1).1, (rd_Key t4.1 t4.2.2.1).2.1, (rd_Key t4.1 t4.2.2.1).2.2.1, (rd_Key t4.1 t4.2.2.1).2.2.2.1, (rd_Key t4.1 t4.2.2.1).2.2.2.2)] : List E_Key))) else none else none else none else again (t4.1, true, (Go.IntKind.wrap .i64 (t4.2.2.1 + (1 : Int))), t4.2.2.2.1, t4.2.2.2.2.1, t4.2.2.2.2.2.1, t4.2.2.2.2.2.2.1, t4.2.2.2.2.2.2.2.1, (t4.2.2.2.2.2.2.2.2 ++ ([(t4.2.2.2.1, t4.2.2.2.2.1, t4.2.2.2.2.2.1, t4.2.2.2.2.2.2.1, t4.2.2.2.2.2.2.2.1)] : List E_Key))) else none else none else none else if (0 : Int) ≤ t4.2.2.1 then if t4.2.2.1 < ((List.length t4.1 : Nat) : Int) then Option.bind (F_spec_SameSpot ((rd_Key t4.1 t4.2.2.1).1, (rd_Key t4.1 t4.2.2.1).2.1, (rd_Key t4.1 t4.2.2.1).2.2.1, (rd_Key t4.1 t4.2.2.1).2.2.2.1, (rd_Key t4.1 t4.2.2.1).2.2.2.2, t4.2.2.2.1, t4.2.2.2.2.1, t4.2.2.2.2.2.1, t4.2.2.2.2.2.2.1, t4.2.2.2.2.2.2.2.1)) fun r4 => bif (!r4) then if (0 : Int) ≤ t4.2.2.1 then if t4.2.2.1 < ((List.length t4.1 : Nat) : Int) then if (List.length t4.2.2.2.2.2.2.2.2 + List.length ([((rd_Key t4.1 t4.2.2.1).1, (rd_Key t4.1 t4.2.2.1).2.1, (rd_Key t4.1 t4.2.2.1).2.2.1, (rd_Key t4.1 t4.2.2.1).2.2.2.1, (rd_Key t4.1 t4.2.2.1).2.2.2.2)] : List E_Key)) * 40 < 140737488355328 then again (t4.1, t4.2.1, (Go.IntKind.wrap .i64 (t4.2.2.1 + (1 : Int))), t4.2.2.2.1, t4.2.2.2.2.1, t4.2.2.2.2.2.1, t4.2.2.2.2.2.2.1, t4.2.2.2.2.2.2.2.1, (t4.2.2.2.2.2.2.2.2 ++ ([((rd_Key t4.1 t4.2.2.1).1, (rd_Key t4.1 t4.2.2.1).2.1, (rd_Key t4.1 t4.2.2.1).2.2.1, (rd_Key t4.1 t4.2.2.1).2.2.2.1, (rd_Key t4.1 t4.2.2.1).2.2.2.2)] : List E_Key))) else none else none else none else again (t4.1, t4.2.1, (Go.IntKind.wrap .i64 (t4.2.2.1 + (1 : Int))), t4.2.2.2.1, t4.2.2.2.2.1, t4.2.2.2.2.2.1, t4.2.2.2.2.2.2.1, t4.2.2.2.2.2.2.2.1, t4.2.2.2.2.2.2.2.2) else none else none else k0 (t4.2.1, t4.2.2.2.1, t4.2.2.2.2.1, t4.2.2.2.2.2.1, t4.2.2.2.2.2.2.1, t4.2.2.2.2.2.2.2.1, t4.2.2.2.2.2.2.2.2)
def L_spec_SetPut_4 k0 := iter (@S_spec_SetPut_4 R k0) FUEL
def F_spec_SetPut (x : Qz18) : Option (List E_Key) :=
 L_spec_SetPut_4 (fun x5 => bif (!x5.1) then if (List.length x5.2.2.2.2.2.2 + List.length ([(x5.2.1, x5.2.2.1, x5.2.2.2.1, x5.2.2.2.2.1, x5.2.2.2.2.2.1)] : List E_Key)) * 40 < 140737488355328 then some (x5.2.2.2.2.2.2 ++ ([(x5.2.1, x5.2.2.1, x5.2.2.2.1, x5.2.2.2.2.1, x5.2.2.2.2.2.1)] : List E_Key)) else none else some x5.2.2.2.2.2.2) (x.1, false, (0 : Int), x.2.1, x.2.2.1, x.2.2.2.1, x.2.2.2.2.1, x.2.2.2.2.2, ([] : List E_Key))
def f236Q : List QF := [q266, q267]
def f236e4_0 (t : Qz16) : St := ⟨v_Key t.1 :: dd 2 (.box 3 0 :: .dead :: .own 10000000 :: vB t.2.1 :: vI t.2.2.1 :: dd 43 []), [(3, .box [vI t.2.2.2.1, vI t.2.2.2.2.1, vI t.2.2.2.2.2.1, vI t.2.2.2.2.2.2.1, vI t.2.2.2.2.2.2.2.1]), (10000000, .root true 106 ts_Key t.2.2.2.2.2.2.2.2)]⟩
def f236g4 : Gk T_spec_SetPut_4 := fun κ => S_spec_SetPut_4 (fun t => κ (some 0) ⟨dd 3 (.box 3 0 :: .dead :: .own 10000000 :: vB t.1 :: dd 44 []), [(3, .box [vI t.2.1, vI t.2.2.1, vI t.2.2.2.1, vI t.2.2.2.2.1, vI t.2.2.2.2.2.1]), (10000000, .root true 106 ts_Key t.2.2.2.2.2.2)]⟩)
def f236P : Lp := lpC 4 (unG qz16 f236e4_0) @f236g4 lpN
theorem f236C4 : LF f236Q f236P 236 4 Tryz.f236 0 f236e4_0 @f236g4 fun t => t := fun R κ again t => by kernel_rfl
theorem f236k4 : LK f236Q f236P 236 Tryz.f236 0 := lkN (u := (unG qz16 f236e4_0)) (unG_ok fun t => by kernel_rfl) f236C4
theorem ev236 : EV f236Q f236P 236 Tryz.f236 sg236 qz18 [(.sl 106 ts_Key)] F_spec_SetPut := fun x => by kernel_rfl
def q236 : QF := ⟨236, F_spec_SetPut, okN (n := 1) Tryz.func236 ⟨f236k4, trivial⟩ ev236⟩
abbrev T_spec_MergeSets_3 : Type := Qz14
def S_spec_MergeSets_3 (k0 : List E_Key → Option R) (again : T_spec_MergeSets_3 → Option R) (t3 : T_spec_MergeSets_3) : Option R :=
 bif (decide (t3.2.1 < ((List.length t3.1 : Nat) : Int))) then if (0 : Int) ≤ t3.2.1 then if t3.2.1 < ((List.length t3.1 : Nat) : Int) then Option.bind (F_spec_SetPut (t3.2.2, (rd_Key t3.1 t3.2.1).1, (rd_Key t3.1 t3.2.1).2.1, (rd_Key t3.1 t3.2.1).2.2.1, (rd_Key t3.1 t3.2.1).2.2.2.1, (rd_Key t3.1 t3.2.1).2.2.2.2)) fun r1 => again (t3.1, (Go.IntKind.wrap .i64 (t3.2.1 + (1 : Int))), r1) else none else none else k0 t3.2.2
def L_spec_MergeSets_3 k0 := iter (@S_spec_MergeSets_3 R k0) FUEL
def F_spec_MergeSets (x : Qz19) : Option (List E_Key) :=
 if (List.length ([] : List E_Key) + List.length x.1) * 40 < 140737488355328 then L_spec_MergeSets_3 (fun x2 => some x2) (x.2, (0 : Int), (([] : List E_Key) ++ x.1)) else none
def f261Q : List QF := [q236]
def f261e3_0 (t : Qz14) : St := ⟨.dead :: v_Key t.1 :: dd 3 (.own 10000000 :: vI t.2.1 :: dd 16 []), [(10000000, .root true 106 ts_Key t.2.2)]⟩
def f261g3 : Gk T_spec_MergeSets_3 := fun κ => S_spec_MergeSets_3 (fun t => κ (some 0) ⟨dd 5 (.own 10000000 :: dd 17 []), [(10000000, .root true 106 ts_Key t)]⟩)
def f261P : Lp := lpC 3 (unG qz14 f261e3_0) @f261g3 lpN
theorem f261C3 : LF f261Q f261P 261 3 Tryz.f261 0 f261e3_0 @f261g3 fun t => t := fun R κ again t => by kernel_rfl
theorem f261k3 : LK f261Q f261P 261 Tryz.f261 0 := lkN (u := (unG qz14 f261e3_0)) (unG_ok fun t => by kernel_rfl) f261C3
theorem ev261 : EV f261Q f261P 261 Tryz.f261 sg261 qz19 [(.sl 106 ts_Key)] F_spec_MergeSets := fun x => by kernel_rfl
def q261 : QF := ⟨261, F_spec_MergeSets, okN (n := 1) Tryz.func261 ⟨f261k3, trivial⟩ ev261⟩
abbrev T_spec_NodeKeys_3 : Type := Qz20
def S_spec_NodeKeys_3 (k0 : List E_Key → Option R) (again : T_spec_NodeKeys_3 → Option R) (t3 : T_spec_NodeKeys_3) : Option R :=
 bif (decide (t3.1 < ((List.length t3.2.1 : Nat) : Int))) then if (0 : Int) ≤ t3.1 then if t3.1 < ((List.length t3.2.1 : Nat) : Int) then Option.bind (F_spec_MergeSets (t3.2.2, (rd_s_Key t3.2.1 t3.1))) fun r1 => again ((Go.IntKind.wrap .i64 (t3.1 + (1 : Int))), t3.2.1, r1) else none else none else k0 t3.2.2
def L_spec_NodeKeys_3 k0 := iter (@S_spec_NodeKeys_3 R k0) FUEL
def F_spec_NodeKeys (x : List E_s_Key) : Option (List E_Key) :=
 L_spec_NodeKeys_3 (fun x2 => Option.bind (F_spec_Drop x2) fun r3 => some r3) ((0 : Int), x, ([] : List E_Key))
def f230Q : List QF := [q235, q261]
def f230e3_0 (t : Qz20) : St := ⟨.dead :: .box 1 0 :: .dead :: .own 10000000 :: vI t.1 :: dd 17 [], [(1, .box [v_s_Key t.2.1]), (10000000, .root true 106 ts_Key t.2.2)]⟩
def f230g3 : Gk T_spec_NodeKeys_3 := fun κ => S_spec_NodeKeys_3 (fun t => κ (some 0) ⟨dd 3 (.own 10000000 :: dd 18 []), [(10000000, .root true 106 ts_Key t)]⟩)
def f230P : Lp := lpC 3 (unG qz20 f230e3_0) @f230g3 lpN
theorem f230C3 : LF f230Q f230P 230 3 Tryz.f230 0 f230e3_0 @f230g3 fun t => t := fun R κ again t => by kernel_rfl
theorem f230k3 : LK f230Q f230P 230 Tryz.f230 0 := lkN (u := (unG qz20 f230e3_0)) (unG_ok fun t => by kernel_rfl) f230C3
theorem ev230 : EV f230Q f230P 230 Tryz.f230 sg230 [(.sl 100 ts_s_Key)] [(.sl 106 ts_Key)] F_spec_NodeKeys := fun x => by kernel_rfl
def q230 : QF := ⟨230, F_spec_NodeKeys, okN (n := 1) Tryz.func230 ⟨f230k3, trivial⟩ ev230⟩
abbrev T_spec_TreeKeys_3 : Type := Qz21
def S_spec_TreeKeys_3 (k0 : List E_Key → Option R) (again : T_spec_TreeKeys_3 → Option R) (t3 : T_spec_TreeKeys_3) : Option R :=
 bif (decide (t3.1 < ((List.length t3.2.2.1 : Nat) : Int))) then if (0 : Int) ≤ t3.1 then if t3.1 < ((List.length t3.2.2.1 : Nat) : Int) then Option.bind (F_spec_NodeKeys (rd_Node t3.2.2.1 t3.1)) fun r1 => if (List.length t3.2.2.2 + List.length r1) * 40 < 140737488355328 then again ((Go.IntKind.wrap .i64 (t3.1 + (1 : Int))), t3.2.1, t3.2.2.1, (t3.2.2.2 ++ r1)) else none else none else none else k0 t3.2.2.2
def L_spec_TreeKeys_3 k0 := iter (@S_spec_TreeKeys_3 R k0) FUEL
def F_spec_TreeKeys (x : Qz22) : Option (List E_Key) :=
 L_spec_TreeKeys_3 (fun x2 => some x2) ((0 : Int), x.1, x.2, ([] : List E_Key))
def f188Q : List QF := [q230]
def f188e3_0 (t : Qz21) : St := ⟨.dead :: .box 1 0 :: .dead :: .own 10000000 :: vI t.1 :: dd 17 [], [(1, .box [v_i64 t.2.1, v_Node t.2.2.1]), (10000000, .root true 106 ts_Key t.2.2.2)]⟩
def f188g3 : Gk T_spec_TreeKeys_3 := fun κ => S_spec_TreeKeys_3 (fun t => κ (some 0) ⟨dd 3 (.own 10000000 :: dd 18 []), [(10000000, .root true 106 ts_Key t)]⟩)
def f188P : Lp := lpC 3 (unG qz21 f188e3_0) @f188g3 lpN
theorem f188C3 : LF f188Q f188P 188 3 Tryz.f188 0 f188e3_0 @f188g3 fun t => t := fun R κ again t => by kernel_rfl
theorem f188k3 : LK f188Q f188P 188 Tryz.f188 0 := lkN (u := (unG qz21 f188e3_0)) (unG_ok fun t => by kernel_rfl) f188C3
theorem ev188 : EV f188Q f188P 188 Tryz.f188 sg188 qz22 [(.sl 106 ts_Key)] F_spec_TreeKeys := fun x => by kernel_rfl
def q188 : QF := ⟨188, F_spec_TreeKeys, okN (n := 1) Tryz.func188 ⟨f188k3, trivial⟩ ev188⟩
def F_spec_SpotOf (x : Qz6) : Option Int :=
 some (Go.IntKind.wrap .i64 ((Go.IntKind.wrap .i64 ((64 : Int) * x.1)) + x.2))
theorem ev264 : EV [] lpN 264 Tryz.f264 sg264 qz6 [(.int .i64)] F_spec_SpotOf := fun x => by kernel_rfl
def q264 : QF := ⟨264, F_spec_SpotOf, okN (n := 0) Tryz.func264 trivial ev264⟩
def F_spec_l6Spot (x : Qz23) : Option Int :=
 Option.bind (F_spec_SpotOf (x.1, x.2.1)) fun r1 => some r1
theorem ev237 : EV [q264] lpN 237 Tryz.f237 sg237 qz23 [(.int .i64)] F_spec_l6Spot := fun x => by kernel_rfl
def q237 : QF := ⟨237, F_spec_l6Spot, okN (n := 0) Tryz.func237 trivial ev237⟩
def F_spec_KeyOk (x : Qz23) : Option Bool :=
 Option.bind (F_spec_l1In (x.1, (0 : Int), (15 : Int))) fun r1 => Option.bind (bif (!r1) then some true else Option.bind (F_spec_l1In (x.2.1, (1 : Int), (60 : Int))) fun r3 => some (!r3)) fun u2 => Option.bind (bif u2 then some true else Option.bind (F_spec_l1In (x.2.2.1, (0 : Int), (2 : Int))) fun r5 => some (!r5)) fun u4 => bif u4 then some false else bif (x.2.2.1 == (1 : Int)) then Option.bind (F_spec_l1In (x.2.2.2.1, (0 : Int), (23 : Int))) fun r6 => Option.bind (bif r6 then Option.bind (F_spec_l1In (x.2.2.2.2, (0 : Int), (999 : Int))) fun r8 => some r8 else some false) fun u7 => some u7 else Option.bind (bif (x.2.2.2.1 == (0 : Int)) then some (x.2.2.2.2 == (0 : Int)) else some false) fun u9 => some u9
theorem ev202 : EV [q107] lpN 202 Tryz.f202 sg202 qz23 [.bool] F_spec_KeyOk := fun x => by kernel_rfl
def q202 : QF := ⟨202, F_spec_KeyOk, okN (n := 0) Tryz.func202 trivial ev202⟩
abbrev T_spec_l4Rises_2 : Type := Qz24
def S_spec_l4Rises_2 (k0 : Bool → Option R) (k1 : Unit → Option R) (again : T_spec_l4Rises_2 → Option R) (t2 : T_spec_l4Rises_2) : Option R :=
 bif (decide (t2.2 < ((List.length t2.1 : Nat) : Int))) then if (0 : Int) ≤ (Go.IntKind.wrap .i64 (t2.2 - (1 : Int))) then if (Go.IntKind.wrap .i64 (t2.2 - (1 : Int))) < ((List.length t2.1 : Nat) : Int) then if (0 : Int) ≤ t2.2 then if t2.2 < ((List.length t2.1 : Nat) : Int) then Option.bind (F_spec_LessKey ((rd_Key t2.1 (Go.IntKind.wrap .i64 (t2.2 - (1 : Int)))).1, (rd_Key t2.1 (Go.IntKind.wrap .i64 (t2.2 - (1 : Int)))).2.1, (rd_Key t2.1 (Go.IntKind.wrap .i64 (t2.2 - (1 : Int)))).2.2.1, (rd_Key t2.1 (Go.IntKind.wrap .i64 (t2.2 - (1 : Int)))).2.2.2.1, (rd_Key t2.1 (Go.IntKind.wrap .i64 (t2.2 - (1 : Int)))).2.2.2.2, (rd_Key t2.1 t2.2).1, (rd_Key t2.1 t2.2).2.1, (rd_Key t2.1 t2.2).2.2.1, (rd_Key t2.1 t2.2).2.2.2.1, (rd_Key t2.1 t2.2).2.2.2.2)) fun r1 => bif (!r1) then k0 false else again (t2.1, (Go.IntKind.wrap .i64 (t2.2 + (1 : Int)))) else none else none else none else none else k1 ()
def L_spec_l4Rises_2 k0 k1 := iter (@S_spec_l4Rises_2 R k0 k1) FUEL
def F_spec_l4Rises (x : List E_Key) : Option Bool :=
 L_spec_l4Rises_2 (fun x2 => some x2) (fun x3 => some true) (x, (1 : Int))
def f300Q : List QF := [q266]
def f300e2_0 (t : Qz24) : St := ⟨v_Key t.1 :: dd 2 (vI t.2 :: dd 17 []), []⟩
def f300g2 : Gk T_spec_l4Rises_2 := fun κ => S_spec_l4Rises_2 (fun t => κ none ⟨dd 2 (vB t :: dd 18 []), []⟩) (fun t => κ (some 0) ⟨dd 21 [], []⟩)
def f300P : Lp := lpC 2 (unG qz24 f300e2_0) @f300g2 lpN
theorem f300C2 : LF f300Q f300P 300 2 Tryz.f300 0 f300e2_0 @f300g2 fun t => t := fun R κ again t => by kernel_rfl
theorem f300k2 : LK f300Q f300P 300 Tryz.f300 0 := lkN (u := (unG qz24 f300e2_0)) (unG_ok fun t => by kernel_rfl) f300C2
theorem ev300 : EV f300Q f300P 300 Tryz.f300 sg300 [(.sl 106 ts_Key)] [.bool] F_spec_l4Rises := fun x => by kernel_rfl
def q300 : QF := ⟨300, F_spec_l4Rises, okN (n := 1) Tryz.func300 ⟨f300k2, trivial⟩ ev300⟩
abbrev T_spec_SetOk_2 : Type := Qz24
def S_spec_SetOk_2 (k0 : Qz25 → Option R) (k1 : List E_Key → Option R) (again : T_spec_SetOk_2 → Option R) (t2 : T_spec_SetOk_2) : Option R :=
 bif (decide (t2.2 < ((List.length t2.1 : Nat) : Int))) then if (0 : Int) ≤ t2.2 then if t2.2 < ((List.length t2.1 : Nat) : Int) then Option.bind (F_spec_KeyOk ((rd_Key t2.1 t2.2).1, (rd_Key t2.1 t2.2).2.1, (rd_Key t2.1 t2.2).2.2.1, (rd_Key t2.1 t2.2).2.2.2.1, (rd_Key t2.1 t2.2).2.2.2.2)) fun r1 => bif (!r1) then k0 (t2.1, false) else again (t2.1, (Go.IntKind.wrap .i64 (t2.2 + (1 : Int)))) else none else none else k1 t2.1
def L_spec_SetOk_2 k0 k1 := iter (@S_spec_SetOk_2 R k0 k1) FUEL
def F_spec_SetOk (x : List E_Key) : Option Bool :=
 L_spec_SetOk_2 (fun x2 => some x2.2) (fun x3 => Option.bind (F_spec_l4Rises x3) fun r4 => Option.bind (bif r4 then some (decide (((List.length x3 : Nat) : Int) ≤ (60 : Int))) else some false) fun u5 => some u5) (x, (0 : Int))
def f276Q : List QF := [q202, q300]
def f276e2_0 (t : Qz24) : St := ⟨v_Key t.1 :: dd 2 (vI t.2 :: dd 19 []), []⟩
def f276g2 : Gk T_spec_SetOk_2 := fun κ => S_spec_SetOk_2 (fun t => κ none ⟨v_Key t.1 :: .dead :: vB t.2 :: dd 20 [], []⟩) (fun t => κ (some 0) ⟨v_Key t :: dd 22 [], []⟩)
def f276P : Lp := lpC 2 (unG qz24 f276e2_0) @f276g2 lpN
theorem f276C2 : LF f276Q f276P 276 2 Tryz.f276 0 f276e2_0 @f276g2 fun t => t := fun R κ again t => by kernel_rfl
theorem f276k2 : LK f276Q f276P 276 Tryz.f276 0 := lkN (u := (unG qz24 f276e2_0)) (unG_ok fun t => by kernel_rfl) f276C2
theorem ev276 : EV f276Q f276P 276 Tryz.f276 sg276 [(.sl 106 ts_Key)] [.bool] F_spec_SetOk := fun x => by kernel_rfl
def q276 : QF := ⟨276, F_spec_SetOk, okN (n := 1) Tryz.func276 ⟨f276k2, trivial⟩ ev276⟩
abbrev T_spec_l5Count_3 : Type := Qz26
def S_spec_l5Count_3 (k0 : Int → Option R) (again : T_spec_l5Count_3 → Option R) (t3 : T_spec_l5Count_3) : Option R :=
 bif (decide (t3.2.1 < ((List.length t3.2.2 : Nat) : Int))) then if (0 : Int) ≤ t3.2.1 then if t3.2.1 < ((List.length t3.2.2 : Nat) : Int) then again ((Go.IntKind.wrap .i64 (t3.1 + ((List.length (rd_s_Key t3.2.2 t3.2.1) : Nat) : Int))), (Go.IntKind.wrap .i64 (t3.2.1 + (1 : Int))), t3.2.2) else none else none else k0 t3.1
def L_spec_l5Count_3 k0 := iter (@S_spec_l5Count_3 R k0) FUEL
def F_spec_l5Count (x : List E_s_Key) : Option Int :=
 L_spec_l5Count_3 (fun x1 => some x1) ((0 : Int), (0 : Int), x)
def f277Q : List QF := []
def f277e3_0 (t : Qz26) : St := ⟨.dead :: .box 1 0 :: .dead :: vI t.1 :: vI t.2.1 :: dd 16 [], [(1, .box [v_s_Key t.2.2])]⟩
def f277g3 : Gk T_spec_l5Count_3 := fun κ => S_spec_l5Count_3 (fun t => κ (some 0) ⟨dd 3 (vI t :: dd 17 []), []⟩)
def f277P : Lp := lpC 3 (unG qz26 f277e3_0) @f277g3 lpN
theorem f277C3 : LF f277Q f277P 277 3 Tryz.f277 0 f277e3_0 @f277g3 fun t => t := fun R κ again t => by kernel_rfl
theorem f277k3 : LK f277Q f277P 277 Tryz.f277 0 := lkN (u := (unG qz26 f277e3_0)) (unG_ok fun t => by kernel_rfl) f277C3
theorem ev277 : EV f277Q f277P 277 Tryz.f277 sg277 [(.sl 100 ts_s_Key)] [(.int .i64)] F_spec_l5Count := fun x => by kernel_rfl
def q277 : QF := ⟨277, F_spec_l5Count, okN (n := 1) Tryz.func277 ⟨f277k3, trivial⟩ ev277⟩
abbrev T_spec_NodeOk_2 : Type := Qz27
def S_spec_NodeOk_2 (k0 : Qz28 → Option R) (k1 : List E_s_Key → Option R) (again : T_spec_NodeOk_2 → Option R) (t2 : T_spec_NodeOk_2) : Option R :=
 bif (decide (t2.1 < ((List.length t2.2 : Nat) : Int))) then if (0 : Int) ≤ t2.1 then if t2.1 < ((List.length t2.2 : Nat) : Int) then Option.bind (F_spec_SetOk (rd_s_Key t2.2 t2.1)) fun r1 => Option.bind (bif (!r1) then some true else if (0 : Int) ≤ t2.1 then if t2.1 < ((List.length t2.2 : Nat) : Int) then some (((List.length (rd_s_Key t2.2 t2.1) : Nat) : Int) == (0 : Int)) else none else none) fun u2 => bif u2 then k0 (false, t2.2) else again ((Go.IntKind.wrap .i64 (t2.1 + (1 : Int))), t2.2) else none else none else k1 t2.2
def L_spec_NodeOk_2 k0 k1 := iter (@S_spec_NodeOk_2 R k0 k1) FUEL
def F_spec_NodeOk (x : List E_s_Key) : Option Bool :=
 L_spec_NodeOk_2 (fun x3 => some x3.1) (fun x4 => Option.bind (bif (decide (((List.length x4 : Nat) : Int) ≤ (3 : Int))) then Option.bind (F_spec_l5Count x4) fun r6 => some (decide (r6 ≤ (8 : Int))) else some false) fun u5 => some u5) ((0 : Int), x)
def f244Q : List QF := [q276, q277]
def f244e2_0 (t : Qz27) : St := ⟨.dead :: .box 1 0 :: .dead :: vI t.1 :: dd 32 [], [(1, .box [v_s_Key t.2])]⟩
def f244g2 : Gk T_spec_NodeOk_2 := fun κ => S_spec_NodeOk_2 (fun t => κ none ⟨.dead :: .box 1 0 :: vB t.1 :: dd 33 [], [(1, .box [v_s_Key t.2])]⟩) (fun t => κ (some 0) ⟨.dead :: .box 1 0 :: dd 34 [], [(1, .box [v_s_Key t])]⟩)
def f244P : Lp := lpC 2 (unG qz27 f244e2_0) @f244g2 lpN
theorem f244C2 : LF f244Q f244P 244 2 Tryz.f244 0 f244e2_0 @f244g2 fun t => t := fun R κ again t => by kernel_rfl
theorem f244k2 : LK f244Q f244P 244 Tryz.f244 0 := lkN (u := (unG qz27 f244e2_0)) (unG_ok fun t => by kernel_rfl) f244C2
theorem ev244 : EV f244Q f244P 244 Tryz.f244 sg244 [(.sl 100 ts_s_Key)] [.bool] F_spec_NodeOk := fun x => by kernel_rfl
def q244 : QF := ⟨244, F_spec_NodeOk, okN (n := 1) Tryz.func244 ⟨f244k2, trivial⟩ ev244⟩
abbrev T_spec_l6Node_8 : Type := Qz29
def S_spec_l6Node_8 (k0 : Qz30 → Option R) (k1 : Qz31 → Option R) (again : T_spec_l6Node_8 → Option R) (t8 : T_spec_l6Node_8) : Option R :=
 if (0 : Int) ≤ t8.2.1 then if t8.2.1 < ((List.length t8.2.2.2.2.2 : Nat) : Int) then bif (decide (t8.2.2.1 < ((List.length (rd_s_Key t8.2.2.2.2.2 t8.2.1) : Nat) : Int))) then if (0 : Int) ≤ t8.2.1 then if t8.2.1 < ((List.length t8.2.2.2.2.2 : Nat) : Int) then if (0 : Int) ≤ t8.2.2.1 then if t8.2.2.1 < ((List.length (rd_s_Key t8.2.2.2.2.2 t8.2.1) : Nat) : Int) then Option.bind (F_spec_l6Spot ((rd_Key (rd_s_Key t8.2.2.2.2.2 t8.2.1) t8.2.2.1).1, (rd_Key (rd_s_Key t8.2.2.2.2.2 t8.2.1) t8.2.2.1).2.1, (rd_Key (rd_s_Key t8.2.2.2.2.2 t8.2.1) t8.2.2.1).2.2.1, (rd_Key (rd_s_Key t8.2.2.2.2.2 t8.2.1) t8.2.2.1).2.2.2.1, (rd_Key (rd_s_Key t8.2.2.2.2.2 t8.2.1) t8.2.2.1).2.2.2.2)) fun r5 => if (0 : Int) ≤ t8.1 then if t8.1 < ((List.length t8.2.2.2.1 : Nat) : Int) then Option.bind (bif (decide (r5 < (rd_i64 t8.2.2.2.1 t8.1))) then some true else Option.bind (bif (decide ((Go.IntKind.wrap .i64 (t8.1 + (1 : Int))) < ((List.length t8.2.2.2.1 : Nat) : Int))) then if (0 : Int) ≤ (Go.IntKind.wrap .i64 (t8.1 + (1 : Int))) then if (Go.IntKind.wrap .i64 (t8.1 + (1 : Int))) < ((List.length t8.2.2.2.1 : Nat) : Int) then some (decide (r5 ≥ (rd_i64 t8.2.2.2.1 (Go.IntKind.wrap .i64 (t8.1 + (1 : Int)))))) else none else none else some false) fun u7 => some u7) fun u6 => bif u6 then k0 (t8.1, false, t8.2.1, t8.2.2.2.1, t8.2.2.2.2.1, t8.2.2.2.2.2) else again (t8.1, t8.2.1, (Go.IntKind.wrap .i64 (t8.2.2.1 + (1 : Int))), t8.2.2.2.1, t8.2.2.2.2.1, t8.2.2.2.2.2) else none else none else none else none else none else none else k1 (t8.1, t8.2.1, t8.2.2.2.1, t8.2.2.2.2.1, t8.2.2.2.2.2) else none else none
def L_spec_l6Node_8 k0 k1 := iter (@S_spec_l6Node_8 R k0 k1) FUEL
abbrev T_spec_l6Node_5 : Type := Qz31
def S_spec_l6Node_5 (k0 : Bool → Option R) (k1 : Unit → Option R) (again : T_spec_l6Node_5 → Option R) (t5 : T_spec_l6Node_5) : Option R :=
 bif (decide (t5.2.1 < ((List.length t5.2.2.2.2 : Nat) : Int))) then L_spec_l6Node_8 (fun x8 => k0 x8.2.1) (fun x9 => again (x9.1, (Go.IntKind.wrap .i64 (x9.2.1 + (1 : Int))), x9.2.2.1, x9.2.2.2.1, x9.2.2.2.2)) (t5.1, t5.2.1, (0 : Int), t5.2.2.1, t5.2.2.2.1, t5.2.2.2.2) else k1 ()
def L_spec_l6Node_5 k0 k1 := iter (@S_spec_l6Node_5 R k0 k1) FUEL
def F_spec_l6Node (x : Qz32) : Option Bool :=
 if (0 : Int) ≤ x.2.2 then if x.2.2 < ((List.length x.2.1 : Nat) : Int) then Option.bind (F_spec_NodeOk (rd_Node x.2.1 x.2.2)) fun r1 => Option.bind (bif (!r1) then some true else Option.bind (bif (decide (x.2.2 > (0 : Int))) then Option.bind (F_spec_NodeKeys (rd_Node x.2.1 x.2.2)) fun r4 => some (((List.length r4 : Nat) : Int) == (0 : Int)) else some false) fun u3 => some u3) fun u2 => bif u2 then some false else L_spec_l6Node_5 (fun x10 => some x10) (fun x11 => some true) (x.2.2, (0 : Int), x.1, x.2.1, (rd_Node x.2.1 x.2.2)) else none else none
def f195Q : List QF := [q230, q237, q244]
def f195e8_0 (t : Qz29) : St := ⟨.dead :: vI t.1 :: .box 2 0 :: dd 2 (.box 5 0 :: vI t.2.1 :: vI t.2.2.1 :: dd 70 []), [(2, .box [v_i64 t.2.2.2.1, v_Node t.2.2.2.2.1]), (5, .box [v_s_Key t.2.2.2.2.2])]⟩
def f195g8 : Gk T_spec_l6Node_8 := fun κ => S_spec_l6Node_8 (fun t => κ none ⟨.dead :: vI t.1 :: .box 2 0 :: .dead :: vB t.2.1 :: .box 5 0 :: vI t.2.2.1 :: dd 71 [], [(2, .box [v_i64 t.2.2.2.1, v_Node t.2.2.2.2.1]), (5, .box [v_s_Key t.2.2.2.2.2])]⟩) (fun t => κ (some 2) ⟨.dead :: vI t.1 :: .box 2 0 :: dd 2 (.box 5 0 :: vI t.2.1 :: dd 71 []), [(2, .box [v_i64 t.2.2.1, v_Node t.2.2.2.1]), (5, .box [v_s_Key t.2.2.2.2])]⟩)
def f195e5_0 (t : Qz31) : St := ⟨.dead :: vI t.1 :: .box 2 0 :: dd 2 (.box 5 0 :: vI t.2.1 :: dd 71 []), [(2, .box [v_i64 t.2.2.1, v_Node t.2.2.2.1]), (5, .box [v_s_Key t.2.2.2.2])]⟩
def f195g5 : Gk T_spec_l6Node_5 := fun κ => S_spec_l6Node_5 (fun t => κ none ⟨dd 4 (vB t :: dd 73 []), []⟩) (fun t => κ (some 0) ⟨dd 78 [], []⟩)
def f195P : Lp := lpC 5 (unG qz31 f195e5_0) @f195g5 (lpC 8 (unG qz29 f195e8_0) @f195g8 lpN)
theorem f195C8 : LF f195Q f195P 195 8 Tryz.f195 1 f195e8_0 @f195g8 fun t => t := fun R κ again t => by kernel_rfl
theorem f195k8 : LK f195Q f195P 195 Tryz.f195 1 := lkN (u := (unG qz29 f195e8_0)) (unG_ok fun t => by kernel_rfl) f195C8
theorem f195C5 : LF f195Q f195P 195 5 Tryz.f195 0 f195e5_0 @f195g5 fun t => t := fun R κ again t => by kernel_rfl
theorem f195k5 : LK f195Q f195P 195 Tryz.f195 0 := lkN (u := (unG qz31 f195e5_0)) (unG_ok fun t => by kernel_rfl) f195C5
theorem ev195 : EV f195Q f195P 195 Tryz.f195 sg195 qz32 [.bool] F_spec_l6Node := fun x => by kernel_rfl
def q195 : QF := ⟨195, F_spec_l6Node, okN (n := 2) Tryz.func195 ⟨f195k5, f195k8, trivial⟩ ev195⟩
abbrev T_spec_TreeOk_4 : Type := Qz33
def S_spec_TreeOk_4 (k0 : Qz34 → Option R) (k1 : Qz22 → Option R) (again : T_spec_TreeOk_4 → Option R) (t4 : T_spec_TreeOk_4) : Option R :=
 bif (decide (t4.1 < ((List.length t4.2.2 : Nat) : Int))) then Option.bind (bif (decide (t4.1 > (0 : Int))) then if (0 : Int) ≤ (Go.IntKind.wrap .i64 (t4.1 - (1 : Int))) then if (Go.IntKind.wrap .i64 (t4.1 - (1 : Int))) < ((List.length t4.2.1 : Nat) : Int) then if (0 : Int) ≤ t4.1 then if t4.1 < ((List.length t4.2.1 : Nat) : Int) then some (decide ((rd_i64 t4.2.1 (Go.IntKind.wrap .i64 (t4.1 - (1 : Int)))) ≥ (rd_i64 t4.2.1 t4.1))) else none else none else none else none else some false) fun u4 => Option.bind (bif u4 then some true else Option.bind (F_spec_l6Node (t4.2.1, t4.2.2, t4.1)) fun r6 => some (!r6)) fun u5 => bif u5 then k0 (false, t4.2.1, t4.2.2) else again ((Go.IntKind.wrap .i64 (t4.1 + (1 : Int))), t4.2.1, t4.2.2) else k1 (t4.2.1, t4.2.2)
def L_spec_TreeOk_4 k0 k1 := iter (@S_spec_TreeOk_4 R k0 k1) FUEL
def F_spec_TreeOk (x : Qz22) : Option Bool :=
 Option.bind (F_spec_l1In (((List.length x.2 : Nat) : Int), (1 : Int), (20 : Int))) fun r1 => Option.bind (bif (!r1) then some true else some (((List.length x.1 : Nat) : Int) != ((List.length x.2 : Nat) : Int))) fun u2 => Option.bind (bif u2 then some true else if (0 : Int) ≤ (0 : Int) then if (0 : Int) < ((List.length x.1 : Nat) : Int) then some ((rd_i64 x.1 (0 : Int)) != (0 : Int)) else none else none) fun u3 => bif u3 then some false else L_spec_TreeOk_4 (fun x7 => some x7.1) (fun x8 => Option.bind (F_spec_TreeKeys (x8.1, x8.2)) fun r9 => some (decide (((List.length r9 : Nat) : Int) ≤ (60 : Int)))) ((0 : Int), x.1, x.2)
def f120Q : List QF := [q107, q188, q195]
def f120e4_0 (t : Qz33) : St := ⟨.dead :: .box 1 0 :: .dead :: vI t.1 :: dd 54 [], [(1, .box [v_i64 t.2.1, v_Node t.2.2])]⟩
def f120g4 : Gk T_spec_TreeOk_4 := fun κ => S_spec_TreeOk_4 (fun t => κ none ⟨.dead :: .box 1 0 :: vB t.1 :: dd 55 [], [(1, .box [v_i64 t.2.1, v_Node t.2.2])]⟩) (fun t => κ (some 0) ⟨.dead :: .box 1 0 :: dd 56 [], [(1, .box [v_i64 t.1, v_Node t.2])]⟩)
def f120P : Lp := lpC 4 (unG qz33 f120e4_0) @f120g4 lpN
theorem f120C4 : LF f120Q f120P 120 4 Tryz.f120 0 f120e4_0 @f120g4 fun t => t := fun R κ again t => by kernel_rfl
theorem f120k4 : LK f120Q f120P 120 Tryz.f120 0 := lkN (u := (unG qz33 f120e4_0)) (unG_ok fun t => by kernel_rfl) f120C4
theorem ev120 : EV f120Q f120P 120 Tryz.f120 sg120 qz22 [.bool] F_spec_TreeOk := fun x => by kernel_rfl
def q120 : QF := ⟨120, F_spec_TreeOk, okN (n := 1) Tryz.func120 ⟨f120k4, trivial⟩ ev120⟩
abbrev T_spec_AgeAt_2 : Type := Qz35
def S_spec_AgeAt_2 (k0 : Int → Option R) (k1 : Unit → Option R) (again : T_spec_AgeAt_2 → Option R) (t2 : T_spec_AgeAt_2) : Option R :=
 bif (decide (t2.2.2 < ((List.length t2.1 : Nat) : Int))) then if (0 : Int) ≤ t2.2.2 then if t2.2.2 < ((List.length t2.1 : Nat) : Int) then bif ((rd_Age t2.1 t2.2.2).1 == t2.2.1) then k0 t2.2.2 else again (t2.1, t2.2.1, (Go.IntKind.wrap .i64 (t2.2.2 + (1 : Int)))) else none else none else k1 ()
def L_spec_AgeAt_2 k0 k1 := iter (@S_spec_AgeAt_2 R k0 k1) FUEL
def F_spec_AgeAt (x : Qz36) : Option Int :=
 L_spec_AgeAt_2 (fun x1 => some x1) (fun x2 => some (-1 : Int)) (x.1, x.2, (0 : Int))
def f196Q : List QF := []
def f196e2_0 (t : Qz35) : St := ⟨v_Age t.1 :: vI t.2.1 :: dd 3 (vI t.2.2 :: dd 14 []), []⟩
def f196g2 : Gk T_spec_AgeAt_2 := fun κ => S_spec_AgeAt_2 (fun t => κ none ⟨dd 4 (vI t :: dd 15 []), []⟩) (fun t => κ (some 0) ⟨dd 20 [], []⟩)
def f196P : Lp := lpC 2 (unG qz35 f196e2_0) @f196g2 lpN
theorem f196C2 : LF f196Q f196P 196 2 Tryz.f196 0 f196e2_0 @f196g2 fun t => t := fun R κ again t => by kernel_rfl
theorem f196k2 : LK f196Q f196P 196 Tryz.f196 0 := lkN (u := (unG qz35 f196e2_0)) (unG_ok fun t => by kernel_rfl) f196C2
theorem ev196 : EV f196Q f196P 196 Tryz.f196 sg196 qz36 [(.int .i64)] F_spec_AgeAt := fun x => by kernel_rfl
def q196 : QF := ⟨196, F_spec_AgeAt, okN (n := 1) Tryz.func196 ⟨f196k2, trivial⟩ ev196⟩
abbrev T_spec_AgesOk_2 : Type := Qz36
def S_spec_AgesOk_2 (k0 : Qz37 → Option R) (k1 : List E_Age → Option R) (again : T_spec_AgesOk_2 → Option R) (t2 : T_spec_AgesOk_2) : Option R :=
 bif (decide (t2.2 < ((List.length t2.1 : Nat) : Int))) then if (0 : Int) ≤ t2.2 then if t2.2 < ((List.length t2.1 : Nat) : Int) then Option.bind (F_spec_l1In ((rd_Age t2.1 t2.2).1, (1 : Int), (60 : Int))) fun r1 => Option.bind (bif (!r1) then some true else Option.bind (bif (decide (t2.2 > (0 : Int))) then if (0 : Int) ≤ (Go.IntKind.wrap .i64 (t2.2 - (1 : Int))) then if (Go.IntKind.wrap .i64 (t2.2 - (1 : Int))) < ((List.length t2.1 : Nat) : Int) then if (0 : Int) ≤ t2.2 then if t2.2 < ((List.length t2.1 : Nat) : Int) then some (decide ((rd_Age t2.1 (Go.IntKind.wrap .i64 (t2.2 - (1 : Int)))).1 ≥ (rd_Age t2.1 t2.2).1)) else none else none else none else none else some false) fun u3 => some u3) fun u2 => bif u2 then k0 (t2.1, false) else if (0 : Int) ≤ t2.2 then if t2.2 < ((List.length t2.1 : Nat) : Int) then Option.bind (bif ((rd_Age t2.1 t2.2).2 != (0 : Int)) then if (0 : Int) ≤ (0 : Int) then if (0 : Int) ≤ t2.2 then if t2.2 ≤ ((List.length t2.1 : Nat) : Int) then if (0 : Int) ≤ t2.2 then if t2.2 < ((List.length t2.1 : Nat) : Int) then Option.bind (F_spec_AgeAt ((List.drop (Int.toNat (0 : Int)) (List.take (Int.toNat t2.2) t2.1)), (rd_Age t2.1 t2.2).2)) fun r5 => some (decide (r5 < (0 : Int))) else none else none else none else none else none else some false) fun u4 => bif u4 then k0 (t2.1, false) else again (t2.1, (Go.IntKind.wrap .i64 (t2.2 + (1 : Int)))) else none else none else none else none else k1 t2.1
def L_spec_AgesOk_2 k0 k1 := iter (@S_spec_AgesOk_2 R k0 k1) FUEL
def F_spec_AgesOk (x : List E_Age) : Option Bool :=
 L_spec_AgesOk_2 (fun x6 => some x6.2) (fun x7 => some (decide (((List.length x7 : Nat) : Int) ≤ (16 : Int)))) (x, (0 : Int))
def f121Q : List QF := [q107, q196]
def f121e2_0 (t : Qz36) : St := ⟨v_Age t.1 :: dd 2 (vI t.2 :: dd 52 []), []⟩
def f121g2 : Gk T_spec_AgesOk_2 := fun κ => S_spec_AgesOk_2 (fun t => κ none ⟨v_Age t.1 :: .dead :: vB t.2 :: dd 53 [], []⟩) (fun t => κ (some 0) ⟨v_Age t :: dd 55 [], []⟩)
def f121P : Lp := lpC 2 (unG qz36 f121e2_0) @f121g2 lpN
theorem f121C2 : LF f121Q f121P 121 2 Tryz.f121 0 f121e2_0 @f121g2 fun t => t := fun R κ again t => by kernel_rfl
theorem f121k2 : LK f121Q f121P 121 Tryz.f121 0 := lkN (u := (unG qz36 f121e2_0)) (unG_ok fun t => by kernel_rfl) f121C2
theorem ev121 : EV f121Q f121P 121 Tryz.f121 sg121 [(.sl 89 ts_Age)] [.bool] F_spec_AgesOk := fun x => by kernel_rfl
def q121 : QF := ⟨121, F_spec_AgesOk, okN (n := 1) Tryz.func121 ⟨f121k2, trivial⟩ ev121⟩
def F_spec_l1Word (x : Int) : Option Bool :=
 Option.bind (F_spec_l1In (x, (0 : Int), (65535 : Int))) fun r1 => some r1
theorem ev197 : EV [q107] lpN 197 Tryz.f197 sg197 [(.int .i64)] [.bool] F_spec_l1Word := fun x => by kernel_rfl
def q197 : QF := ⟨197, F_spec_l1Word, okN (n := 0) Tryz.func197 trivial ev197⟩
abbrev T_spec_CellsOk_2 : Type := Qz38
def S_spec_CellsOk_2 (k0 : Qz39 → Option R) (k1 : List E_Cell → Option R) (again : T_spec_CellsOk_2 → Option R) (t2 : T_spec_CellsOk_2) : Option R :=
 bif (decide (t2.2 < ((List.length t2.1 : Nat) : Int))) then if (0 : Int) ≤ t2.2 then if t2.2 < ((List.length t2.1 : Nat) : Int) then Option.bind (F_spec_l1In ((rd_Cell t2.1 t2.2).1, (0 : Int), (999 : Int))) fun r1 => Option.bind (bif (!r1) then some true else if (0 : Int) ≤ t2.2 then if t2.2 < ((List.length t2.1 : Nat) : Int) then Option.bind (F_spec_l1Word ((rd_Cell t2.1 t2.2).2.2)) fun r3 => some (!r3) else none else none) fun u2 => Option.bind (bif u2 then some true else if (0 : Int) ≤ t2.2 then if t2.2 < ((List.length t2.1 : Nat) : Int) then Option.bind (bif (!((rd_Cell t2.1 t2.2).2.1)) then if (0 : Int) ≤ t2.2 then if t2.2 < ((List.length t2.1 : Nat) : Int) then some ((rd_Cell t2.1 t2.2).2.2 != (0 : Int)) else none else none else some false) fun u5 => some u5 else none else none) fun u4 => bif u4 then k0 (t2.1, false) else again (t2.1, (Go.IntKind.wrap .i64 (t2.2 + (1 : Int)))) else none else none else k1 t2.1
def L_spec_CellsOk_2 k0 k1 := iter (@S_spec_CellsOk_2 R k0 k1) FUEL
def F_spec_CellsOk (x : List E_Cell) : Option Bool :=
 L_spec_CellsOk_2 (fun x6 => some x6.2) (fun x7 => some (((List.length x7 : Nat) : Int) == (24 : Int))) (x, (0 : Int))
def f122Q : List QF := [q107, q197]
def f122e2_0 (t : Qz38) : St := ⟨v_Cell t.1 :: dd 2 (vI t.2 :: dd 41 []), []⟩
def f122g2 : Gk T_spec_CellsOk_2 := fun κ => S_spec_CellsOk_2 (fun t => κ none ⟨v_Cell t.1 :: .dead :: vB t.2 :: dd 42 [], []⟩) (fun t => κ (some 0) ⟨v_Cell t :: dd 44 [], []⟩)
def f122P : Lp := lpC 2 (unG qz38 f122e2_0) @f122g2 lpN
theorem f122C2 : LF f122Q f122P 122 2 Tryz.f122 0 f122e2_0 @f122g2 fun t => t := fun R κ again t => by kernel_rfl
theorem f122k2 : LK f122Q f122P 122 Tryz.f122 0 := lkN (u := (unG qz38 f122e2_0)) (unG_ok fun t => by kernel_rfl) f122C2
theorem ev122 : EV f122Q f122P 122 Tryz.f122 sg122 [(.sl 95 ts_Cell)] [.bool] F_spec_CellsOk := fun x => by kernel_rfl
def q122 : QF := ⟨122, F_spec_CellsOk, okN (n := 1) Tryz.func122 ⟨f122k2, trivial⟩ ev122⟩
abbrev T_spec_NameOk_2 : Type := Qz40
def S_spec_NameOk_2 (k0 : Qz41 → Option R) (k1 : ByteArray → Option R) (again : T_spec_NameOk_2 → Option R) (t2 : T_spec_NameOk_2) : Option R :=
 bif (decide (t2.2 < ((ByteArray.size t2.1 : Nat) : Int))) then if (0 : Int) ≤ t2.2 then if h1 : Int.toNat t2.2 < ByteArray.size t2.1 then Option.bind (F_spec_l1In ((Go.IntKind.wrap .i64 ((UInt8.toNat (ByteArray.get t2.1 (Int.toNat t2.2) h1) : Nat) : Int)), (97 : Int), (122 : Int))) fun r2 => Option.bind (bif (!r2) then if (0 : Int) ≤ t2.2 then if h4 : Int.toNat t2.2 < ByteArray.size t2.1 then Option.bind (F_spec_l1In ((Go.IntKind.wrap .i64 ((UInt8.toNat (ByteArray.get t2.1 (Int.toNat t2.2) h4) : Nat) : Int)), (48 : Int), (57 : Int))) fun r5 => some (!r5) else none else none else some false) fun u3 => bif u3 then k0 (t2.1, false) else again (t2.1, (Go.IntKind.wrap .i64 (t2.2 + (1 : Int)))) else none else none else k1 t2.1
def L_spec_NameOk_2 k0 k1 := iter (@S_spec_NameOk_2 R k0 k1) FUEL
def F_spec_NameOk (x : ByteArray) : Option Bool :=
 L_spec_NameOk_2 (fun x6 => some x6.2) (fun x7 => Option.bind (F_spec_l1In (((ByteArray.size x7 : Nat) : Int), (1 : Int), (6 : Int))) fun r8 => some r8) (x, (0 : Int))
def f198Q : List QF := [q107]
def f198e2_0 (t : Qz40) : St := ⟨vS t.1 :: dd 2 (vI t.2 :: dd 23 []), []⟩
def f198g2 : Gk T_spec_NameOk_2 := fun κ => S_spec_NameOk_2 (fun t => κ none ⟨vS t.1 :: .dead :: vB t.2 :: dd 24 [], []⟩) (fun t => κ (some 0) ⟨vS t :: dd 26 [], []⟩)
def f198P : Lp := lpC 2 (unG qz40 f198e2_0) @f198g2 lpN
theorem f198C2 : LF f198Q f198P 198 2 Tryz.f198 0 f198e2_0 @f198g2 fun t => t := fun R κ again t => by kernel_rfl
theorem f198k2 : LK f198Q f198P 198 Tryz.f198 0 := lkN (u := (unG qz40 f198e2_0)) (unG_ok fun t => by kernel_rfl) f198C2
theorem ev198 : EV f198Q f198P 198 Tryz.f198 sg198 [.str] [.bool] F_spec_NameOk := fun x => by kernel_rfl
def q198 : QF := ⟨198, F_spec_NameOk, okN (n := 1) Tryz.func198 ⟨f198k2, trivial⟩ ev198⟩
abbrev T_spec_KidsOf_3 : Type := Qz42
def S_spec_KidsOf_3 (k0 : List E_i64 → Option R) (again : T_spec_KidsOf_3 → Option R) (t3 : T_spec_KidsOf_3) : Option R :=
 bif (decide (t3.2.2.1 < ((List.length t3.1 : Nat) : Int))) then if (0 : Int) ≤ t3.2.2.1 then if t3.2.2.1 < ((List.length t3.1 : Nat) : Int) then Option.bind (bif ((rd_Age t3.1 t3.2.2.1).2 == t3.2.1) then some (t3.2.1 != (0 : Int)) else some false) fun u1 => bif u1 then if (0 : Int) ≤ t3.2.2.1 then if t3.2.2.1 < ((List.length t3.1 : Nat) : Int) then if (List.length t3.2.2.2 + List.length ([(rd_Age t3.1 t3.2.2.1).1] : List E_i64)) * 8 < 140737488355328 then again (t3.1, t3.2.1, (Go.IntKind.wrap .i64 (t3.2.2.1 + (1 : Int))), (t3.2.2.2 ++ ([(rd_Age t3.1 t3.2.2.1).1] : List E_i64))) else none else none else none else again (t3.1, t3.2.1, (Go.IntKind.wrap .i64 (t3.2.2.1 + (1 : Int))), t3.2.2.2) else none else none else k0 t3.2.2.2
def L_spec_KidsOf_3 k0 := iter (@S_spec_KidsOf_3 R k0) FUEL
def F_spec_KidsOf (x : Qz36) : Option (List E_i64) :=
 L_spec_KidsOf_3 (fun x2 => some x2) (x.1, x.2, (0 : Int), ([] : List E_i64))
def f199Q : List QF := []
def f199e3_0 (t : Qz42) : St := ⟨v_Age t.1 :: vI t.2.1 :: dd 3 (.own 10000000 :: vI t.2.2.1 :: dd 27 []), [(10000000, .root true 3 ts_i64 t.2.2.2)]⟩
def f199g3 : Gk T_spec_KidsOf_3 := fun κ => S_spec_KidsOf_3 (fun t => κ (some 0) ⟨dd 5 (.own 10000000 :: dd 28 []), [(10000000, .root true 3 ts_i64 t)]⟩)
def f199P : Lp := lpC 3 (unG qz42 f199e3_0) @f199g3 lpN
theorem f199C3 : LF f199Q f199P 199 3 Tryz.f199 0 f199e3_0 @f199g3 fun t => t := fun R κ again t => by kernel_rfl
theorem f199k3 : LK f199Q f199P 199 Tryz.f199 0 := lkN (u := (unG qz42 f199e3_0)) (unG_ok fun t => by kernel_rfl) f199C3
theorem ev199 : EV f199Q f199P 199 Tryz.f199 sg199 qz36 [(.sl 3 ts_i64)] F_spec_KidsOf := fun x => by kernel_rfl
def q199 : QF := ⟨199, F_spec_KidsOf, okN (n := 1) Tryz.func199 ⟨f199k3, trivial⟩ ev199⟩
abbrev T_spec_l10Vols_8 : Type := Qz43
def S_spec_l10Vols_8 (k0 : Qz44 → Option R) (k1 : Qz45 → Option R) (again : T_spec_l10Vols_8 → Option R) (t8 : T_spec_l10Vols_8) : Option R :=
 bif (decide (t8.2.1 < t8.1)) then if (0 : Int) ≤ t8.2.1 then if t8.2.1 < ((List.length t8.2.2.2.2.2.2.1 : Nat) : Int) then bif ((rd_Vol t8.2.2.2.2.2.2.1 t8.2.1).2.1 == t8.2.2.2.2.2.2.2.2.2.1) then k0 (false, t8.1, t8.2.2.1, t8.2.2.2.1, t8.2.2.2.2.1, t8.2.2.2.2.2.1, t8.2.2.2.2.2.2.1, t8.2.2.2.2.2.2.2.1) else again (t8.1, (Go.IntKind.wrap .i64 (t8.2.1 + (1 : Int))), t8.2.2.1, t8.2.2.2.1, t8.2.2.2.2.1, t8.2.2.2.2.2.1, t8.2.2.2.2.2.2.1, t8.2.2.2.2.2.2.2.1, t8.2.2.2.2.2.2.2.2.1, t8.2.2.2.2.2.2.2.2.2.1, t8.2.2.2.2.2.2.2.2.2.2.1, t8.2.2.2.2.2.2.2.2.2.2.2) else none else none else k1 (t8.1, t8.2.2.1, t8.2.2.2.1, t8.2.2.2.2.1, t8.2.2.2.2.2.1, t8.2.2.2.2.2.2.1, t8.2.2.2.2.2.2.2.1)
def L_spec_l10Vols_8 k0 k1 := iter (@S_spec_l10Vols_8 R k0 k1) FUEL
abbrev T_spec_l10Vols_2 : Type := Qz45
def S_spec_l10Vols_2 (k0 : Qz46 → Option R) (k1 : Qz47 → Option R) (again : T_spec_l10Vols_2 → Option R) (t2 : T_spec_l10Vols_2) : Option R :=
 bif (decide (t2.1 < ((List.length t2.2.2.2.2.2.1 : Nat) : Int))) then if (0 : Int) ≤ t2.1 then if t2.1 < ((List.length t2.2.2.2.2.2.1 : Nat) : Int) then Option.bind (F_spec_NameOk ((rd_Vol t2.2.2.2.2.2.1 t2.1).1)) fun r1 => Option.bind (bif (!r1) then some true else Option.bind (F_spec_l1In ((rd_Vol t2.2.2.2.2.2.1 t2.1).2.2.1, (1 : Int), (12 : Int))) fun r3 => some (!r3)) fun u2 => Option.bind (bif u2 then some true else Option.bind (F_spec_AgeAt (t2.2.2.2.1, (rd_Vol t2.2.2.2.2.2.1 t2.1).2.1)) fun r5 => some (decide (r5 < (0 : Int)))) fun u4 => Option.bind (bif u4 then some true else Option.bind (F_spec_KidsOf (t2.2.2.2.1, (rd_Vol t2.2.2.2.2.2.1 t2.1).2.1)) fun r7 => some (decide (((List.length r7 : Nat) : Int) > (0 : Int)))) fun u6 => Option.bind (bif u6 then some true else Option.bind (bif (decide (t2.1 > (0 : Int))) then if (0 : Int) ≤ (Go.IntKind.wrap .i64 (t2.1 - (1 : Int))) then if (Go.IntKind.wrap .i64 (t2.1 - (1 : Int))) < ((List.length t2.2.2.2.2.2.1 : Nat) : Int) then some (!Go.Op.bytesLess (ByteArray.toList ((rd_Vol t2.2.2.2.2.2.1 (Go.IntKind.wrap .i64 (t2.1 - (1 : Int)))).1)) (ByteArray.toList ((rd_Vol t2.2.2.2.2.2.1 t2.1).1))) else none else none else some false) fun u9 => some u9) fun u8 => bif u8 then k0 (false, t2.2.1, t2.2.2.1, t2.2.2.2.1, t2.2.2.2.2.1, t2.2.2.2.2.2.1, t2.2.2.2.2.2.2) else L_spec_l10Vols_8 (fun x10 => k0 (x10.1, x10.2.2.1, x10.2.2.2.1, x10.2.2.2.2.1, x10.2.2.2.2.2.1, x10.2.2.2.2.2.2.1, x10.2.2.2.2.2.2.2)) (fun x11 => again ((Go.IntKind.wrap .i64 (x11.1 + (1 : Int))), x11.2.1, x11.2.2.1, x11.2.2.2.1, x11.2.2.2.2.1, x11.2.2.2.2.2.1, x11.2.2.2.2.2.2)) (t2.1, (0 : Int), t2.2.1, t2.2.2.1, t2.2.2.2.1, t2.2.2.2.2.1, t2.2.2.2.2.2.1, t2.2.2.2.2.2.2, (rd_Vol t2.2.2.2.2.2.1 t2.1).1, (rd_Vol t2.2.2.2.2.2.1 t2.1).2.1, (rd_Vol t2.2.2.2.2.2.1 t2.1).2.2.1, (rd_Vol t2.2.2.2.2.2.1 t2.1).2.2.2) else none else none else k1 (t2.2.1, t2.2.2.1, t2.2.2.2.1, t2.2.2.2.2.1, t2.2.2.2.2.2.1, t2.2.2.2.2.2.2)
def L_spec_l10Vols_2 k0 k1 := iter (@S_spec_l10Vols_2 R k0 k1) FUEL
def F_spec_l10Vols (x : Qz47) : Option Bool :=
 L_spec_l10Vols_2 (fun x12 => some x12.1) (fun x13 => some (decide (((List.length x13.2.2.2.2.1 : Nat) : Int) ≤ (6 : Int)))) ((0 : Int), x.1, x.2.1, x.2.2.1, x.2.2.2.1, x.2.2.2.2.1, x.2.2.2.2.2)
def f123Q : List QF := [q107, q196, q198, q199]
def f123e8_0 (t : Qz43) : St := ⟨.dead :: .box 1 0 :: .dead :: vI t.1 :: .box 4 0 :: vI t.2.1 :: dd 73 [], [(1, .box [v_i64 t.2.2.1, v_Node t.2.2.2.1, v_Age t.2.2.2.2.1, v_Cell t.2.2.2.2.2.1, v_Vol t.2.2.2.2.2.2.1, vI t.2.2.2.2.2.2.2.1]), (4, .box [vS t.2.2.2.2.2.2.2.2.1, vI t.2.2.2.2.2.2.2.2.2.1, vI t.2.2.2.2.2.2.2.2.2.2.1, vB t.2.2.2.2.2.2.2.2.2.2.2])]⟩
def f123g8 : Gk T_spec_l10Vols_8 := fun κ => S_spec_l10Vols_8 (fun t => κ none ⟨.dead :: .box 1 0 :: vB t.1 :: vI t.2.1 :: dd 75 [], [(1, .box [v_i64 t.2.2.1, v_Node t.2.2.2.1, v_Age t.2.2.2.2.1, v_Cell t.2.2.2.2.2.1, v_Vol t.2.2.2.2.2.2.1, vI t.2.2.2.2.2.2.2])]⟩) (fun t => κ (some 2) ⟨.dead :: .box 1 0 :: .dead :: vI t.1 :: dd 75 [], [(1, .box [v_i64 t.2.1, v_Node t.2.2.1, v_Age t.2.2.2.1, v_Cell t.2.2.2.2.1, v_Vol t.2.2.2.2.2.1, vI t.2.2.2.2.2.2])]⟩)
def f123e2_0 (t : Qz45) : St := ⟨.dead :: .box 1 0 :: .dead :: vI t.1 :: dd 75 [], [(1, .box [v_i64 t.2.1, v_Node t.2.2.1, v_Age t.2.2.2.1, v_Cell t.2.2.2.2.1, v_Vol t.2.2.2.2.2.1, vI t.2.2.2.2.2.2])]⟩
def f123g2 : Gk T_spec_l10Vols_2 := fun κ => S_spec_l10Vols_2 (fun t => κ none ⟨.dead :: .box 1 0 :: vB t.1 :: dd 76 [], [(1, .box [v_i64 t.2.1, v_Node t.2.2.1, v_Age t.2.2.2.1, v_Cell t.2.2.2.2.1, v_Vol t.2.2.2.2.2.1, vI t.2.2.2.2.2.2])]⟩) (fun t => κ (some 0) ⟨.dead :: .box 1 0 :: dd 77 [], [(1, .box [v_i64 t.1, v_Node t.2.1, v_Age t.2.2.1, v_Cell t.2.2.2.1, v_Vol t.2.2.2.2.1, vI t.2.2.2.2.2])]⟩)
def f123P : Lp := lpC 2 (unG qz45 f123e2_0) @f123g2 (lpC 8 (unG qz43 f123e8_0) @f123g8 lpN)
theorem f123C8 : LF f123Q f123P 123 8 Tryz.f123 1 f123e8_0 @f123g8 fun t => t := fun R κ again t => by kernel_rfl
theorem f123k8 : LK f123Q f123P 123 Tryz.f123 1 := lkN (u := (unG qz43 f123e8_0)) (unG_ok fun t => by kernel_rfl) f123C8
theorem f123C2 : LF f123Q f123P 123 2 Tryz.f123 0 f123e2_0 @f123g2 fun t => t := fun R κ again t => by kernel_rfl
theorem f123k2 : LK f123Q f123P 123 Tryz.f123 0 := lkN (u := (unG qz45 f123e2_0)) (unG_ok fun t => by kernel_rfl) f123C2
theorem ev123 : EV f123Q f123P 123 Tryz.f123 sg123 qz47 [.bool] F_spec_l10Vols := fun x => by kernel_rfl
def q123 : QF := ⟨123, F_spec_l10Vols, okN (n := 2) Tryz.func123 ⟨f123k2, f123k8, trivial⟩ ev123⟩
def F_spec_CellAt (x : Qz48) : Option Qz49 :=
 Option.bind (F_spec_l1In (x.2.1, (0 : Int), (Go.IntKind.wrap .i64 (((List.length x.1 : Nat) : Int) - (1 : Int))))) fun r1 => Option.bind (bif (!r1) then some true else if (0 : Int) ≤ x.2.1 then if x.2.1 < ((List.length x.1 : Nat) : Int) then some (!((rd_Cell x.1 x.2.1).2.1)) else none else none) fun u2 => Option.bind (bif u2 then some true else if (0 : Int) ≤ x.2.1 then if x.2.1 < ((List.length x.1 : Nat) : Int) then some ((rd_Cell x.1 x.2.1).1 != x.2.2) else none else none) fun u3 => bif u3 then some ((0 : Int), false) else if (0 : Int) ≤ x.2.1 then if x.2.1 < ((List.length x.1 : Nat) : Int) then some ((rd_Cell x.1 x.2.1).2.2, true) else none else none
theorem ev200 : EV [q107] lpN 200 Tryz.f200 sg200 qz48 qz49 F_spec_CellAt := fun x => by kernel_rfl
def q200 : QF := ⟨200, F_spec_CellAt, okN (n := 0) Tryz.func200 trivial ev200⟩
abbrev T_spec_UsedCells_3 : Type := Qz48
def S_spec_UsedCells_3 (k0 : Int → Option R) (again : T_spec_UsedCells_3 → Option R) (t3 : T_spec_UsedCells_3) : Option R :=
 bif (decide (t3.2.2 < ((List.length t3.1 : Nat) : Int))) then if (0 : Int) ≤ t3.2.2 then if t3.2.2 < ((List.length t3.1 : Nat) : Int) then bif (rd_Cell t3.1 t3.2.2).2.1 then again (t3.1, (Go.IntKind.wrap .i64 (t3.2.1 + (1 : Int))), (Go.IntKind.wrap .i64 (t3.2.2 + (1 : Int)))) else again (t3.1, t3.2.1, (Go.IntKind.wrap .i64 (t3.2.2 + (1 : Int)))) else none else none else k0 t3.2.1
def L_spec_UsedCells_3 k0 := iter (@S_spec_UsedCells_3 R k0) FUEL
def F_spec_UsedCells (x : List E_Cell) : Option Int :=
 L_spec_UsedCells_3 (fun x1 => some x1) (x, (0 : Int), (0 : Int))
def f201Q : List QF := []
def f201e3_0 (t : Qz48) : St := ⟨v_Cell t.1 :: dd 2 (vI t.2.1 :: vI t.2.2 :: dd 14 []), []⟩
def f201g3 : Gk T_spec_UsedCells_3 := fun κ => S_spec_UsedCells_3 (fun t => κ (some 0) ⟨dd 3 (vI t :: dd 15 []), []⟩)
def f201P : Lp := lpC 3 (unG qz48 f201e3_0) @f201g3 lpN
theorem f201C3 : LF f201Q f201P 201 3 Tryz.f201 0 f201e3_0 @f201g3 fun t => t := fun R κ again t => by kernel_rfl
theorem f201k3 : LK f201Q f201P 201 Tryz.f201 0 := lkN (u := (unG qz48 f201e3_0)) (unG_ok fun t => by kernel_rfl) f201C3
theorem ev201 : EV f201Q f201P 201 Tryz.f201 sg201 [(.sl 95 ts_Cell)] [(.int .i64)] F_spec_UsedCells := fun x => by kernel_rfl
def q201 : QF := ⟨201, F_spec_UsedCells, okN (n := 1) Tryz.func201 ⟨f201k3, trivial⟩ ev201⟩
abbrev T_spec_l10Keys_14 : Type := Qz50
def S_spec_l10Keys_14 (k0 : Qz51 → Option R) (k1 : Qz52 → Option R) (again : T_spec_l10Keys_14 → Option R) (t14 : T_spec_l10Keys_14) : Option R :=
 bif (decide (t14.2.2.1 < t14.2.1)) then if (0 : Int) ≤ t14.2.2.1 then if t14.2.2.1 < ((List.length t14.2.2.2.2.2.2.2.2.2 : Nat) : Int) then Option.bind (bif ((rd_Key t14.2.2.2.2.2.2.2.2.2 t14.2.2.1).2.2.1 == (1 : Int)) then if (0 : Int) ≤ t14.2.2.1 then if t14.2.2.1 < ((List.length t14.2.2.2.2.2.2.2.2.2 : Nat) : Int) then if (0 : Int) ≤ t14.2.1 then if t14.2.1 < ((List.length t14.2.2.2.2.2.2.2.2.2 : Nat) : Int) then some ((rd_Key t14.2.2.2.2.2.2.2.2.2 t14.2.2.1).2.2.2.1 == (rd_Key t14.2.2.2.2.2.2.2.2.2 t14.2.1).2.2.2.1) else none else none else none else none else some false) fun u4 => bif u4 then k0 (false, t14.1, t14.2.1, t14.2.2.2.1, t14.2.2.2.2.1, t14.2.2.2.2.2.1, t14.2.2.2.2.2.2.1, t14.2.2.2.2.2.2.2.1, t14.2.2.2.2.2.2.2.2.1, t14.2.2.2.2.2.2.2.2.2) else again (t14.1, t14.2.1, (Go.IntKind.wrap .i64 (t14.2.2.1 + (1 : Int))), t14.2.2.2.1, t14.2.2.2.2.1, t14.2.2.2.2.2.1, t14.2.2.2.2.2.2.1, t14.2.2.2.2.2.2.2.1, t14.2.2.2.2.2.2.2.2.1, t14.2.2.2.2.2.2.2.2.2) else none else none else k1 (t14.1, t14.2.1, t14.2.2.2.1, t14.2.2.2.2.1, t14.2.2.2.2.2.1, t14.2.2.2.2.2.2.1, t14.2.2.2.2.2.2.2.1, t14.2.2.2.2.2.2.2.2.1, t14.2.2.2.2.2.2.2.2.2)
def L_spec_l10Keys_14 k0 k1 := iter (@S_spec_l10Keys_14 R k0 k1) FUEL
abbrev T_spec_l10Keys_4 : Type := Qz52
def S_spec_l10Keys_4 (k0 : Qz44 → Option R) (k1 : Qz45 → Option R) (again : T_spec_l10Keys_4 → Option R) (t4 : T_spec_l10Keys_4) : Option R :=
 bif (decide (t4.2.1 < ((List.length t4.2.2.2.2.2.2.2.2 : Nat) : Int))) then if (0 : Int) ≤ t4.2.1 then if t4.2.1 < ((List.length t4.2.2.2.2.2.2.2.2 : Nat) : Int) then Option.bind (F_spec_AgeAt (t4.2.2.2.2.1, (rd_Key t4.2.2.2.2.2.2.2.2 t4.2.1).2.1)) fun r2 => bif (decide (r2 < (0 : Int))) then k0 (false, t4.1, t4.2.2.1, t4.2.2.2.1, t4.2.2.2.2.1, t4.2.2.2.2.2.1, t4.2.2.2.2.2.2.1, t4.2.2.2.2.2.2.2.1) else if (0 : Int) ≤ t4.2.1 then if t4.2.1 < ((List.length t4.2.2.2.2.2.2.2.2 : Nat) : Int) then bif ((rd_Key t4.2.2.2.2.2.2.2.2 t4.2.1).2.2.1 != (1 : Int)) then again (t4.1, (Go.IntKind.wrap .i64 (t4.2.1 + (1 : Int))), t4.2.2.1, t4.2.2.2.1, t4.2.2.2.2.1, t4.2.2.2.2.2.1, t4.2.2.2.2.2.2.1, t4.2.2.2.2.2.2.2.1, t4.2.2.2.2.2.2.2.2) else if (0 : Int) ≤ t4.2.1 then if t4.2.1 < ((List.length t4.2.2.2.2.2.2.2.2 : Nat) : Int) then if (0 : Int) ≤ t4.2.1 then if t4.2.1 < ((List.length t4.2.2.2.2.2.2.2.2 : Nat) : Int) then Option.bind (F_spec_CellAt (t4.2.2.2.2.2.1, (rd_Key t4.2.2.2.2.2.2.2.2 t4.2.1).2.2.2.1, (rd_Key t4.2.2.2.2.2.2.2.2 t4.2.1).2.2.2.2)) fun r3 => bif (!r3.2) then k0 (false, (Go.IntKind.wrap .i64 (t4.1 + (1 : Int))), t4.2.2.1, t4.2.2.2.1, t4.2.2.2.2.1, t4.2.2.2.2.2.1, t4.2.2.2.2.2.2.1, t4.2.2.2.2.2.2.2.1) else L_spec_l10Keys_14 (fun x5 => k0 (x5.1, x5.2.1, x5.2.2.2.1, x5.2.2.2.2.1, x5.2.2.2.2.2.1, x5.2.2.2.2.2.2.1, x5.2.2.2.2.2.2.2.1, x5.2.2.2.2.2.2.2.2.1)) (fun x6 => again (x6.1, (Go.IntKind.wrap .i64 (x6.2.1 + (1 : Int))), x6.2.2.1, x6.2.2.2.1, x6.2.2.2.2.1, x6.2.2.2.2.2.1, x6.2.2.2.2.2.2.1, x6.2.2.2.2.2.2.2.1, x6.2.2.2.2.2.2.2.2)) ((Go.IntKind.wrap .i64 (t4.1 + (1 : Int))), t4.2.1, (0 : Int), t4.2.2.1, t4.2.2.2.1, t4.2.2.2.2.1, t4.2.2.2.2.2.1, t4.2.2.2.2.2.2.1, t4.2.2.2.2.2.2.2.1, t4.2.2.2.2.2.2.2.2) else none else none else none else none else none else none else none else none else k1 (t4.1, t4.2.2.1, t4.2.2.2.1, t4.2.2.2.2.1, t4.2.2.2.2.2.1, t4.2.2.2.2.2.2.1, t4.2.2.2.2.2.2.2.1)
def L_spec_l10Keys_4 k0 k1 := iter (@S_spec_l10Keys_4 R k0 k1) FUEL
def F_spec_l10Keys (x : Qz47) : Option Bool :=
 Option.bind (F_spec_TreeKeys (x.1, x.2.1)) fun r1 => L_spec_l10Keys_4 (fun x7 => some x7.1) (fun x8 => Option.bind (F_spec_UsedCells x8.2.2.2.2.1) fun r9 => some (x8.1 == r9)) ((0 : Int), (0 : Int), x.1, x.2.1, x.2.2.1, x.2.2.2.1, x.2.2.2.2.1, x.2.2.2.2.2, r1)
def f124Q : List QF := [q188, q196, q200, q201]
def f124e14_0 (t : Qz50) : St := ⟨.dead :: .box 1 0 :: .dead :: .own 10000000 :: vI t.1 :: vI t.2.1 :: dd 2 (vI t.2.2.1 :: dd 73 []), [(1, .box [v_i64 t.2.2.2.1, v_Node t.2.2.2.2.1, v_Age t.2.2.2.2.2.1, v_Cell t.2.2.2.2.2.2.1, v_Vol t.2.2.2.2.2.2.2.1, vI t.2.2.2.2.2.2.2.2.1]), (10000000, .root true 106 ts_Key t.2.2.2.2.2.2.2.2.2)]⟩
def f124g14 : Gk T_spec_l10Keys_14 := fun κ => S_spec_l10Keys_14 (fun t => κ none ⟨.dead :: .box 1 0 :: vB t.1 :: .own 10000000 :: vI t.2.1 :: vI t.2.2.1 :: dd 76 [], [(1, .box [v_i64 t.2.2.2.1, v_Node t.2.2.2.2.1, v_Age t.2.2.2.2.2.1, v_Cell t.2.2.2.2.2.2.1, v_Vol t.2.2.2.2.2.2.2.1, vI t.2.2.2.2.2.2.2.2.1]), (10000000, .root true 106 ts_Key t.2.2.2.2.2.2.2.2.2)]⟩) (fun t => κ (some 2) ⟨.dead :: .box 1 0 :: .dead :: .own 10000000 :: vI t.1 :: vI t.2.1 :: dd 76 [], [(1, .box [v_i64 t.2.2.1, v_Node t.2.2.2.1, v_Age t.2.2.2.2.1, v_Cell t.2.2.2.2.2.1, v_Vol t.2.2.2.2.2.2.1, vI t.2.2.2.2.2.2.2.1]), (10000000, .root true 106 ts_Key t.2.2.2.2.2.2.2.2)]⟩)
def f124e4_0 (t : Qz52) : St := ⟨.dead :: .box 1 0 :: .dead :: .own 10000000 :: vI t.1 :: vI t.2.1 :: dd 76 [], [(1, .box [v_i64 t.2.2.1, v_Node t.2.2.2.1, v_Age t.2.2.2.2.1, v_Cell t.2.2.2.2.2.1, v_Vol t.2.2.2.2.2.2.1, vI t.2.2.2.2.2.2.2.1]), (10000000, .root true 106 ts_Key t.2.2.2.2.2.2.2.2)]⟩
def f124g4 : Gk T_spec_l10Keys_4 := fun κ => S_spec_l10Keys_4 (fun t => κ none ⟨.dead :: .box 1 0 :: vB t.1 :: .dead :: vI t.2.1 :: dd 77 [], [(1, .box [v_i64 t.2.2.1, v_Node t.2.2.2.1, v_Age t.2.2.2.2.1, v_Cell t.2.2.2.2.2.1, v_Vol t.2.2.2.2.2.2.1, vI t.2.2.2.2.2.2.2])]⟩) (fun t => κ (some 0) ⟨.dead :: .box 1 0 :: dd 2 (vI t.1 :: dd 77 []), [(1, .box [v_i64 t.2.1, v_Node t.2.2.1, v_Age t.2.2.2.1, v_Cell t.2.2.2.2.1, v_Vol t.2.2.2.2.2.1, vI t.2.2.2.2.2.2])]⟩)
def f124P : Lp := lpC 4 (unG qz52 f124e4_0) @f124g4 (lpC 14 (unG qz50 f124e14_0) @f124g14 lpN)
theorem f124C14 : LF f124Q f124P 124 14 Tryz.f124 1 f124e14_0 @f124g14 fun t => t := fun R κ again t => by kernel_rfl
theorem f124k14 : LK f124Q f124P 124 Tryz.f124 1 := lkN (u := (unG qz50 f124e14_0)) (unG_ok fun t => by kernel_rfl) f124C14
theorem f124C4 : LF f124Q f124P 124 4 Tryz.f124 0 f124e4_0 @f124g4 fun t => t := fun R κ again t => by kernel_rfl
theorem f124k4 : LK f124Q f124P 124 Tryz.f124 0 := lkN (u := (unG qz52 f124e4_0)) (unG_ok fun t => by kernel_rfl) f124C4
theorem ev124 : EV f124Q f124P 124 Tryz.f124 sg124 qz47 [.bool] F_spec_l10Keys := fun x => by kernel_rfl
def q124 : QF := ⟨124, F_spec_l10Keys, okN (n := 2) Tryz.func124 ⟨f124k4, f124k14, trivial⟩ ev124⟩
abbrev T_spec_PoolOk_2 : Type := Qz45
def S_spec_PoolOk_2 (k0 : Qz46 → Option R) (k1 : Qz47 → Option R) (again : T_spec_PoolOk_2 → Option R) (t2 : T_spec_PoolOk_2) : Option R :=
 bif (decide (t2.1 < ((List.length t2.2.2.2.1 : Nat) : Int))) then if (0 : Int) ≤ t2.1 then if t2.1 < ((List.length t2.2.2.2.1 : Nat) : Int) then bif (decide ((rd_Age t2.2.2.2.1 t2.1).1 ≥ t2.2.2.2.2.2.2)) then k0 (false, t2.2.1, t2.2.2.1, t2.2.2.2.1, t2.2.2.2.2.1, t2.2.2.2.2.2.1, t2.2.2.2.2.2.2) else again ((Go.IntKind.wrap .i64 (t2.1 + (1 : Int))), t2.2.1, t2.2.2.1, t2.2.2.2.1, t2.2.2.2.2.1, t2.2.2.2.2.2.1, t2.2.2.2.2.2.2) else none else none else k1 (t2.2.1, t2.2.2.1, t2.2.2.2.1, t2.2.2.2.2.1, t2.2.2.2.2.2.1, t2.2.2.2.2.2.2)
def L_spec_PoolOk_2 k0 k1 := iter (@S_spec_PoolOk_2 R k0 k1) FUEL
def F_spec_PoolOk (x : Qz47) : Option Bool :=
 L_spec_PoolOk_2 (fun x1 => some x1.1) (fun x2 => Option.bind (F_spec_TreeOk (x2.1, x2.2.1)) fun r3 => Option.bind (bif r3 then Option.bind (F_spec_AgesOk x2.2.2.1) fun r5 => some r5 else some false) fun u4 => Option.bind (bif u4 then Option.bind (F_spec_CellsOk x2.2.2.2.1) fun r7 => some r7 else some false) fun u6 => Option.bind (bif u6 then Option.bind (F_spec_l1In (x2.2.2.2.2.2, (1 : Int), (61 : Int))) fun r9 => some r9 else some false) fun u8 => Option.bind (bif u8 then Option.bind (F_spec_l10Vols (x2.1, x2.2.1, x2.2.2.1, x2.2.2.2.1, x2.2.2.2.2.1, x2.2.2.2.2.2)) fun r11 => some r11 else some false) fun u10 => Option.bind (bif u10 then Option.bind (F_spec_l10Keys (x2.1, x2.2.1, x2.2.2.1, x2.2.2.2.1, x2.2.2.2.2.1, x2.2.2.2.2.2)) fun r13 => some r13 else some false) fun u12 => some u12) ((0 : Int), x.1, x.2.1, x.2.2.1, x.2.2.2.1, x.2.2.2.2.1, x.2.2.2.2.2)
def f47Q : List QF := [q107, q120, q121, q122, q123, q124]
def f47e2_0 (t : Qz45) : St := ⟨.dead :: .box 1 0 :: .dead :: vI t.1 :: dd 42 [], [(1, .box [v_i64 t.2.1, v_Node t.2.2.1, v_Age t.2.2.2.1, v_Cell t.2.2.2.2.1, v_Vol t.2.2.2.2.2.1, vI t.2.2.2.2.2.2])]⟩
def f47g2 : Gk T_spec_PoolOk_2 := fun κ => S_spec_PoolOk_2 (fun t => κ none ⟨.dead :: .box 1 0 :: vB t.1 :: dd 43 [], [(1, .box [v_i64 t.2.1, v_Node t.2.2.1, v_Age t.2.2.2.1, v_Cell t.2.2.2.2.1, v_Vol t.2.2.2.2.2.1, vI t.2.2.2.2.2.2])]⟩) (fun t => κ (some 0) ⟨.dead :: .box 1 0 :: dd 44 [], [(1, .box [v_i64 t.1, v_Node t.2.1, v_Age t.2.2.1, v_Cell t.2.2.2.1, v_Vol t.2.2.2.2.1, vI t.2.2.2.2.2])]⟩)
def f47P : Lp := lpC 2 (unG qz45 f47e2_0) @f47g2 lpN
theorem f47C2 : LF f47Q f47P 47 2 Tryz.f47 0 f47e2_0 @f47g2 fun t => t := fun R κ again t => by kernel_rfl
theorem f47k2 : LK f47Q f47P 47 Tryz.f47 0 := lkN (u := (unG qz45 f47e2_0)) (unG_ok fun t => by kernel_rfl) f47C2
theorem ev47 : EV f47Q f47P 47 Tryz.f47 sg47 qz47 [.bool] F_spec_PoolOk := fun x => by kernel_rfl
def q47 : QF := ⟨47, F_spec_PoolOk, okN (n := 1) Tryz.func47 ⟨f47k2, trivial⟩ ev47⟩
def F_spec_l16Byte (x : Qz53) : Option Qz54 :=
 Option.bind (bif x.2.2 then some true else some (decide (x.2.1 ≥ ((List.length x.1 : Nat) : Int)))) fun u1 => bif u1 then some ((0 : Int), x.1, x.2.1, true) else if (0 : Int) ≤ (Go.IntKind.wrap .i64 ((Go.IntKind.wrap .i64 (x.2.1 + (1 : Int))) - (1 : Int))) then if (Go.IntKind.wrap .i64 ((Go.IntKind.wrap .i64 (x.2.1 + (1 : Int))) - (1 : Int))) < ((List.length x.1 : Nat) : Int) then some ((Go.IntKind.wrap .i64 (rd_u8 x.1 (Go.IntKind.wrap .i64 ((Go.IntKind.wrap .i64 (x.2.1 + (1 : Int))) - (1 : Int))))), x.1, (Go.IntKind.wrap .i64 (x.2.1 + (1 : Int))), x.2.2) else none else none
theorem ev84 : EV [] lpN 84 Tryz.f84 sg84 qz53 qz54 F_spec_l16Byte := fun x => by kernel_rfl
def q84 : QF := ⟨84, F_spec_l16Byte, okN (n := 0) Tryz.func84 trivial ev84⟩
def F_spec_l16Word (x : Qz53) : Option Qz54 :=
 Option.bind (F_spec_l16Byte (x.1, x.2.1, x.2.2)) fun r1 => Option.bind (F_spec_l16Byte (r1.2.1, r1.2.2.1, r1.2.2.2)) fun r2 => some ((Go.bits .or .i64 (Go.IntKind.wrap .i64 (r1.1 * 2 ^ (min (Int.toNat (8 : Int)) (Go.IntKind.bits .i64)))) r2.1), r2.2.1, r2.2.2.1, r2.2.2.2)
theorem ev83 : EV [q84] lpN 83 Tryz.f83 sg83 qz53 qz54 F_spec_l16Word := fun x => by kernel_rfl
def q83 : QF := ⟨83, F_spec_l16Word, okN (n := 0) Tryz.func83 trivial ev83⟩
def F_spec_l16Is (x : Qz53) : Option Qz55 :=
 Option.bind (F_spec_l16Byte (x.1, x.2.1, x.2.2)) fun r1 => Option.bind (bif r1.2.2.2 then some true else some (decide (r1.1 > (1 : Int)))) fun u2 => some ((r1.1 == (1 : Int)), r1.2.1, r1.2.2.1, u2)
theorem ev86 : EV [q84] lpN 86 Tryz.f86 sg86 qz53 qz55 F_spec_l16Is := fun x => by kernel_rfl
def q86 : QF := ⟨86, F_spec_l16Is, okN (n := 0) Tryz.func86 trivial ev86⟩
def F_spec_GetW (x : Qz4) : Option Qz56 :=
 Option.bind (F_spec_l1In (x.2, (0 : Int), (Go.IntKind.wrap .i64 (((List.length x.1 : Nat) : Int) - (2 : Int))))) fun r1 => bif (!r1) then some ((0 : Int), (0 : Int), false) else if (0 : Int) ≤ x.2 then if x.2 < ((List.length x.1 : Nat) : Int) then if (0 : Int) ≤ (Go.IntKind.wrap .i64 (x.2 + (1 : Int))) then if (Go.IntKind.wrap .i64 (x.2 + (1 : Int))) < ((List.length x.1 : Nat) : Int) then some ((Go.bits .or .i64 (Go.IntKind.wrap .i64 ((Go.IntKind.wrap .i64 (rd_u8 x.1 x.2)) * 2 ^ (min (Int.toNat (8 : Int)) (Go.IntKind.bits .i64)))) (Go.IntKind.wrap .i64 (rd_u8 x.1 (Go.IntKind.wrap .i64 (x.2 + (1 : Int)))))), (Go.IntKind.wrap .i64 (x.2 + (2 : Int))), true) else none else none else none else none
theorem ev151 : EV [q107] lpN 151 Tryz.f151 sg151 qz4 qz56 F_spec_GetW := fun x => by kernel_rfl
def q151 : QF := ⟨151, F_spec_GetW, okN (n := 0) Tryz.func151 trivial ev151⟩
def F_spec_GetText (x : Qz4) : Option Qz57 :=
 Option.bind (F_spec_GetW (x.1, x.2)) fun r1 => Option.bind (bif (!r1.2.2) then some true else some (decide (r1.1 > (60 : Int)))) fun u2 => Option.bind (bif u2 then some true else some (decide (r1.1 > (Go.IntKind.wrap .i64 (((List.length x.1 : Nat) : Int) - r1.2.1))))) fun u3 => bif u3 then some ({ data := #[] }, (0 : Int), false) else if (0 : Int) ≤ r1.2.1 then if r1.2.1 ≤ (Go.IntKind.wrap .i64 (r1.2.1 + r1.1)) then if (Go.IntKind.wrap .i64 (r1.2.1 + r1.1)) ≤ ((List.length x.1 : Nat) : Int) then some ((textOf (List.drop (Int.toNat r1.2.1) (List.take (Int.toNat (Go.IntKind.wrap .i64 (r1.2.1 + r1.1))) x.1))), (Go.IntKind.wrap .i64 (r1.2.1 + r1.1)), true) else none else none else none
theorem ev163 : EV [q151] lpN 163 Tryz.f163 sg163 qz4 qz57 F_spec_GetText := fun x => by kernel_rfl
def q163 : QF := ⟨163, F_spec_GetText, okN (n := 0) Tryz.func163 trivial ev163⟩
def F_spec_l16Vol (x : Qz53) : Option Qz58 :=
 Option.bind (F_spec_GetText (x.1, x.2.1)) fun r1 => Option.bind (bif x.2.2 then some true else some (!r1.2.2)) fun u2 => bif u2 then some ((⟨#[]⟩ : ByteArray), (0 : Int), (0 : Int), false, x.1, x.2.1, true) else Option.bind (F_spec_l16Byte (x.1, r1.2.1, x.2.2)) fun r3 => Option.bind (F_spec_l16Byte (r3.2.1, r3.2.2.1, r3.2.2.2)) fun r4 => Option.bind (F_spec_l16Is (r4.2.1, r4.2.2.1, r4.2.2.2)) fun r5 => some (r1.1, r3.1, r4.1, r5.1, r5.2.1, r5.2.2.1, r5.2.2.2)
theorem ev85 : EV [q84, q86, q163] lpN 85 Tryz.f85 sg85 qz53 qz58 F_spec_l16Vol := fun x => by kernel_rfl
def q85 : QF := ⟨85, F_spec_l16Vol, okN (n := 0) Tryz.func85 trivial ev85⟩
def F_spec_GetKey (x : Qz4) : Option Qz59 :=
 Option.bind (F_spec_l1In (x.2, (0 : Int), (Go.IntKind.wrap .i64 (((List.length x.1 : Nat) : Int) - (6 : Int))))) fun r1 => bif (!r1) then some ((0 : Int), (0 : Int), (0 : Int), (0 : Int), (0 : Int), (0 : Int), false) else Option.bind (F_spec_GetW (x.1, (Go.IntKind.wrap .i64 (x.2 + (4 : Int))))) fun r2 => if (0 : Int) ≤ x.2 then if x.2 < ((List.length x.1 : Nat) : Int) then if (0 : Int) ≤ (Go.IntKind.wrap .i64 (x.2 + (1 : Int))) then if (Go.IntKind.wrap .i64 (x.2 + (1 : Int))) < ((List.length x.1 : Nat) : Int) then if (0 : Int) ≤ (Go.IntKind.wrap .i64 (x.2 + (2 : Int))) then if (Go.IntKind.wrap .i64 (x.2 + (2 : Int))) < ((List.length x.1 : Nat) : Int) then if (0 : Int) ≤ (Go.IntKind.wrap .i64 (x.2 + (3 : Int))) then if (Go.IntKind.wrap .i64 (x.2 + (3 : Int))) < ((List.length x.1 : Nat) : Int) then Option.bind (F_spec_KeyOk ((Go.IntKind.wrap .i64 (rd_u8 x.1 x.2)), (Go.IntKind.wrap .i64 (rd_u8 x.1 (Go.IntKind.wrap .i64 (x.2 + (1 : Int))))), (Go.IntKind.wrap .i64 (rd_u8 x.1 (Go.IntKind.wrap .i64 (x.2 + (2 : Int))))), (Go.IntKind.wrap .i64 (rd_u8 x.1 (Go.IntKind.wrap .i64 (x.2 + (3 : Int))))), r2.1)) fun r3 => bif (!r3) then some ((0 : Int), (0 : Int), (0 : Int), (0 : Int), (0 : Int), (0 : Int), false) else some ((Go.IntKind.wrap .i64 (rd_u8 x.1 x.2)), (Go.IntKind.wrap .i64 (rd_u8 x.1 (Go.IntKind.wrap .i64 (x.2 + (1 : Int))))), (Go.IntKind.wrap .i64 (rd_u8 x.1 (Go.IntKind.wrap .i64 (x.2 + (2 : Int))))), (Go.IntKind.wrap .i64 (rd_u8 x.1 (Go.IntKind.wrap .i64 (x.2 + (3 : Int))))), r2.1, r2.2.1, true) else none else none else none else none else none else none else none else none
theorem ev219 : EV [q107, q151, q202] lpN 219 Tryz.f219 sg219 qz4 qz59 F_spec_GetKey := fun x => by kernel_rfl
def q219 : QF := ⟨219, F_spec_GetKey, okN (n := 0) Tryz.func219 trivial ev219⟩
abbrev T_spec_l16Keys_3 : Type := Qz60
def S_spec_l16Keys_3 (k0 : Qz61 → Option R) (k1 : Qz61 → Option R) (again : T_spec_l16Keys_3 → Option R) (t3 : T_spec_l16Keys_3) : Option R :=
 Option.bind (bif (decide (t3.1 > (0 : Int))) then some (!t3.2.2.2.1) else some false) fun u2 => bif u2 then Option.bind (F_spec_GetKey (t3.2.1, t3.2.2.1)) fun r3 => bif (!r3.2.2.2.2.2.2) then k0 (t3.2.1, t3.2.2.1, true, t3.2.2.2.2) else if (List.length t3.2.2.2.2 + List.length ([(r3.1, r3.2.1, r3.2.2.1, r3.2.2.2.1, r3.2.2.2.2.1)] : List E_Key)) * 40 < 140737488355328 then again ((Go.IntKind.wrap .i64 (t3.1 - (1 : Int))), t3.2.1, r3.2.2.2.2.2.1, t3.2.2.2.1, (t3.2.2.2.2 ++ ([(r3.1, r3.2.1, r3.2.2.1, r3.2.2.2.1, r3.2.2.2.2.1)] : List E_Key))) else none else k1 (t3.2.1, t3.2.2.1, t3.2.2.2.1, t3.2.2.2.2)
def L_spec_l16Keys_3 k0 k1 := iter (@S_spec_l16Keys_3 R k0 k1) FUEL
def F_spec_l16Keys (x : Qz53) : Option Qz62 :=
 Option.bind (F_spec_l16Byte (x.1, x.2.1, x.2.2)) fun r1 => L_spec_l16Keys_3 (fun x4 => some (x4.2.2.2, x4.1, x4.2.1, x4.2.2.1)) (fun x5 => some (x5.2.2.2, x5.1, x5.2.1, x5.2.2.1)) (r1.1, r1.2.1, r1.2.2.1, r1.2.2.2, ([] : List E_Key))
def f164Q : List QF := [q84, q219]
def f164e3_0 (t : Qz60) : St := ⟨.box 900 0 :: dd 2 (.own 10000000 :: vI t.1 :: dd 45 []), [(900, .box [v_u8 t.2.1, vI t.2.2.1, vB t.2.2.2.1]), (10000000, .root true 106 ts_Key t.2.2.2.2)]⟩
def f164g3 : Gk T_spec_l16Keys_3 := fun κ => S_spec_l16Keys_3 (fun t => κ none ⟨.box 900 0 :: .dead :: .own 10000000 :: .own 10000000 :: dd 46 [], [(900, .box [v_u8 t.1, vI t.2.1, vB t.2.2.1]), (10000000, .root true 106 ts_Key t.2.2.2)]⟩) (fun t => κ (some 0) ⟨.box 900 0 :: dd 2 (.own 10000000 :: dd 46 []), [(900, .box [v_u8 t.1, vI t.2.1, vB t.2.2.1]), (10000000, .root true 106 ts_Key t.2.2.2)]⟩)
def f164P : Lp := lpC 3 (unG qz60 f164e3_0) @f164g3 lpN
theorem f164C3 : LF f164Q f164P 164 3 Tryz.f164 0 f164e3_0 @f164g3 fun t => t := fun R κ again t => by kernel_rfl
theorem f164k3 : LK f164Q f164P 164 Tryz.f164 0 := lkN (u := (unG qz60 f164e3_0)) (unG_ok fun t => by kernel_rfl) f164C3
theorem ev164 : EV f164Q f164P 164 Tryz.f164 sg164 qz53 qz62 F_spec_l16Keys := fun x => by kernel_rfl
def q164 : QF := ⟨164, F_spec_l16Keys, okN (n := 1) Tryz.func164 ⟨f164k3, trivial⟩ ev164⟩
abbrev T_spec_l16Node_3 : Type := Qz54 ⊕ Qz63
def S_spec_l16Node_3 (k0 : Qz53 → Option R) (k1 : Qz64 → Option R) (again : T_spec_l16Node_3 → Option R) : T_spec_l16Node_3 → Option R
 | .inl t3 => Option.bind (bif (decide (t3.1 > (0 : Int))) then some (!t3.2.2.2) else some false) fun u2 => bif u2 then Option.bind (F_spec_l16Keys (t3.2.1, t3.2.2.1, t3.2.2.2)) fun r3 => if List.length ([r3.1] : List E_s_Key) * 24 < 140737488355328 then again (Sum.inr ((Go.IntKind.wrap .i64 (t3.1 - (1 : Int))), r3.2.1, r3.2.2.1, r3.2.2.2, ([r3.1] : List E_s_Key))) else none else k0 (t3.2.1, t3.2.2.1, t3.2.2.2)
 | .inr t3 => Option.bind (bif (decide (t3.1 > (0 : Int))) then some (!t3.2.2.2.1) else some false) fun u4 => bif u4 then Option.bind (F_spec_l16Keys (t3.2.1, t3.2.2.1, t3.2.2.2.1)) fun r5 => if (List.length t3.2.2.2.2 + List.length ([r5.1] : List E_s_Key)) * 24 < 140737488355328 then again (Sum.inr ((Go.IntKind.wrap .i64 (t3.1 - (1 : Int))), r5.2.1, r5.2.2.1, r5.2.2.2, (t3.2.2.2.2 ++ ([r5.1] : List E_s_Key)))) else none else k1 (t3.2.1, t3.2.2.1, t3.2.2.2.1, t3.2.2.2.2)
def L_spec_l16Node_3 k0 k1 := iter (@S_spec_l16Node_3 R k0 k1) FUEL
def F_spec_l16Node (x : Qz53) : Option Qz65 :=
 Option.bind (F_spec_l16Byte (x.1, x.2.1, x.2.2)) fun r1 => L_spec_l16Node_3 (fun x6 => some (([] : List E_s_Key), x6.1, x6.2.1, x6.2.2)) (fun x7 => some (x7.2.2.2, x7.1, x7.2.1, x7.2.2.1)) (Sum.inl (r1.1, r1.2.1, r1.2.2.1, r1.2.2.2))
def f87Q : List QF := [q84, q164]
def f87e3_0 (t : Qz54) : St := ⟨.box 900 0 :: .dead :: .box 2 0 :: .box 3 0 :: vI t.1 :: dd 24 [], [(900, .box [v_u8 t.2.1, vI t.2.2.1, vB t.2.2.2]), (2, .box [.nils]), (3, .box [.nils])]⟩
theorem f87v3_0 : ∀ s t, unG qz54 f87e3_0 s = some t → f87e3_0 t = s := unG_ok fun t => by kernel_rfl
def f87e3_1 (t : Qz63) : St := ⟨.box 900 0 :: .dead :: .box 2 0 :: .box 3 0 :: vI t.1 :: dd 24 [], [(900, .box [v_u8 t.2.1, vI t.2.2.1, vB t.2.2.2.1]), (2, .box [.nils]), (3, .box [.own 10000000]), (10000000, .root true 100 ts_s_Key t.2.2.2.2)]⟩
theorem f87v3_1 : ∀ s t, unG qz63 f87e3_1 s = some t → f87e3_1 t = s := unG_ok fun t => by kernel_rfl
def f87e3r0 : (Qz54 ⊕ Qz63) → St := Sum.elim f87e3_0 f87e3_1
def f87u3r0 (s : St) : Option (Qz54 ⊕ Qz63) := ((unG qz54 f87e3_0 s).map Sum.inl).or (((unG qz63 f87e3_1) s).map Sum.inr)
theorem f87v3r0 : ∀ s t, f87u3r0 s = some t → f87e3r0 t = s := or_un f87v3_0 f87v3_1
def f87g3 : Gk T_spec_l16Node_3 := fun κ => S_spec_l16Node_3 (fun t => κ (some 0) ⟨.box 900 0 :: .dead :: .box 2 0 :: .box 3 0 :: dd 25 [], [(900, .box [v_u8 t.1, vI t.2.1, vB t.2.2]), (2, .box [.nils]), (3, .box [.nils])]⟩) (fun t => κ (some 0) ⟨.box 900 0 :: .dead :: .box 2 0 :: .box 3 0 :: dd 25 [], [(900, .box [v_u8 t.1, vI t.2.1, vB t.2.2.1]), (2, .box [.nils]), (3, .box [.own 10000000]), (10000000, .root true 100 ts_s_Key t.2.2.2)]⟩)
def f87P : Lp := lpC 3 f87u3r0 @f87g3 lpN
theorem f87C3_0 : LF f87Q f87P 87 3 Tryz.f87 0 f87e3r0 @f87g3 fun v : Qz54 => .inl v := fun R κ again v => by kernel_rfl
theorem f87C3_1 : LF f87Q f87P 87 3 Tryz.f87 0 f87e3r0 @f87g3 fun v : Qz63 => .inr v := fun R κ again v => by kernel_rfl
theorem f87C3 : LF f87Q f87P 87 3 Tryz.f87 0 f87e3r0 @f87g3 fun t => t := (LC.sum f87C3_0 f87C3_1)
theorem f87k3 : LK f87Q f87P 87 Tryz.f87 0 := lkN (u := f87u3r0) f87v3r0 f87C3
theorem ev87 : EV f87Q f87P 87 Tryz.f87 sg87 qz53 qz65 F_spec_l16Node := fun x => by kernel_rfl
def q87 : QF := ⟨87, F_spec_l16Node, okN (n := 1) Tryz.func87 ⟨f87k3, trivial⟩ ev87⟩
abbrev T_spec_GetPool_4 : Type := Qz66
def S_spec_GetPool_4 (k0 : Qz67 → Option R) (again : T_spec_GetPool_4 → Option R) (t4 : T_spec_GetPool_4) : Option R :=
 Option.bind (bif (decide (t4.2.1 > (0 : Int))) then some (!t4.2.2.2.2.2.1) else some false) fun u3 => bif u3 then Option.bind (F_spec_l16Byte (t4.2.2.2.1, t4.2.2.2.2.1, t4.2.2.2.2.2.1)) fun r4 => Option.bind (F_spec_l16Byte (r4.2.1, r4.2.2.1, r4.2.2.2)) fun r5 => if (List.length t4.2.2.2.2.2.2.2.2.1 + List.length ([(r4.1, r5.1)] : List E_Age)) * 16 < 140737488355328 then again (t4.1, (Go.IntKind.wrap .i64 (t4.2.1 - (1 : Int))), t4.2.2.1, r5.2.1, r5.2.2.1, r5.2.2.2, t4.2.2.2.2.2.2.1, t4.2.2.2.2.2.2.2.1, (t4.2.2.2.2.2.2.2.2.1 ++ ([(r4.1, r5.1)] : List E_Age)), t4.2.2.2.2.2.2.2.2.2.1, t4.2.2.2.2.2.2.2.2.2.2) else none else k0 (t4.1, t4.2.2.1, t4.2.2.2.1, t4.2.2.2.2.1, t4.2.2.2.2.2.1, t4.2.2.2.2.2.2.1, t4.2.2.2.2.2.2.2.1, t4.2.2.2.2.2.2.2.2.1, t4.2.2.2.2.2.2.2.2.2.1, t4.2.2.2.2.2.2.2.2.2.2)
def L_spec_GetPool_4 k0 := iter (@S_spec_GetPool_4 R k0) FUEL
abbrev T_spec_GetPool_10 : Type := Qz66
def S_spec_GetPool_10 (k0 : Qz67 → Option R) (again : T_spec_GetPool_10 → Option R) (t10 : T_spec_GetPool_10) : Option R :=
 Option.bind (bif (decide (t10.2.1 > (0 : Int))) then some (!t10.2.2.2.2.2.1) else some false) fun u8 => bif u8 then Option.bind (F_spec_l16Vol (t10.2.2.2.1, t10.2.2.2.2.1, t10.2.2.2.2.2.1)) fun r9 => if (List.length t10.2.2.2.2.2.2.2.2.2.2 + List.length ([(r9.1, r9.2.1, r9.2.2.1, r9.2.2.2.1)] : List E_Vol)) * 40 < 140737488355328 then again (t10.1, (Go.IntKind.wrap .i64 (t10.2.1 - (1 : Int))), t10.2.2.1, r9.2.2.2.2.1, r9.2.2.2.2.2.1, r9.2.2.2.2.2.2, t10.2.2.2.2.2.2.1, t10.2.2.2.2.2.2.2.1, t10.2.2.2.2.2.2.2.2.1, t10.2.2.2.2.2.2.2.2.2.1, (t10.2.2.2.2.2.2.2.2.2.2 ++ ([(r9.1, r9.2.1, r9.2.2.1, r9.2.2.2.1)] : List E_Vol))) else none else k0 (t10.1, t10.2.2.1, t10.2.2.2.1, t10.2.2.2.2.1, t10.2.2.2.2.2.1, t10.2.2.2.2.2.2.1, t10.2.2.2.2.2.2.2.1, t10.2.2.2.2.2.2.2.2.1, t10.2.2.2.2.2.2.2.2.2.1, t10.2.2.2.2.2.2.2.2.2.2)
def L_spec_GetPool_10 k0 := iter (@S_spec_GetPool_10 R k0) FUEL
abbrev T_spec_GetPool_15 : Type := Qz66
def S_spec_GetPool_15 (k0 : Qz67 → Option R) (again : T_spec_GetPool_15 → Option R) (t15 : T_spec_GetPool_15) : Option R :=
 Option.bind (bif (decide (t15.2.1 < (24 : Int))) then some (!t15.2.2.2.2.2.1) else some false) fun u11 => bif u11 then Option.bind (F_spec_l16Word (t15.2.2.2.1, t15.2.2.2.2.1, t15.2.2.2.2.2.1)) fun r12 => Option.bind (F_spec_l16Is (r12.2.1, r12.2.2.1, r12.2.2.2)) fun r13 => Option.bind (F_spec_l16Word (r13.2.1, r13.2.2.1, r13.2.2.2)) fun r14 => if (List.length t15.2.2.2.2.2.2.2.2.2.1 + List.length ([(r12.1, r13.1, r14.1)] : List E_Cell)) * 24 < 140737488355328 then again (t15.1, (Go.IntKind.wrap .i64 (t15.2.1 + (1 : Int))), t15.2.2.1, r14.2.1, r14.2.2.1, r14.2.2.2, t15.2.2.2.2.2.2.1, t15.2.2.2.2.2.2.2.1, t15.2.2.2.2.2.2.2.2.1, (t15.2.2.2.2.2.2.2.2.2.1 ++ ([(r12.1, r13.1, r14.1)] : List E_Cell)), t15.2.2.2.2.2.2.2.2.2.2) else none else k0 (t15.1, t15.2.2.1, t15.2.2.2.1, t15.2.2.2.2.1, t15.2.2.2.2.2.1, t15.2.2.2.2.2.2.1, t15.2.2.2.2.2.2.2.1, t15.2.2.2.2.2.2.2.2.1, t15.2.2.2.2.2.2.2.2.2.1, t15.2.2.2.2.2.2.2.2.2.2)
def L_spec_GetPool_15 k0 := iter (@S_spec_GetPool_15 R k0) FUEL
abbrev T_spec_GetPool_22 : Type := Qz66 ⊕ Qz68
def S_spec_GetPool_22 (k0 : Qz67 → Option R) (k1 : Qz69 → Option R) (again : T_spec_GetPool_22 → Option R) : T_spec_GetPool_22 → Option R
 | .inl t22 => Option.bind (bif (decide (t22.2.1 > (0 : Int))) then some (!t22.2.2.2.2.2.1) else some false) fun u17 => bif u17 then Option.bind (F_spec_l16Word (t22.2.2.2.1, t22.2.2.2.2.1, t22.2.2.2.2.2.1)) fun r18 => Option.bind (F_spec_l16Node (r18.2.1, r18.2.2.1, r18.2.2.2)) fun r19 => if (List.length t22.2.2.2.2.2.2.2.1 + List.length ([r18.1] : List E_i64)) * 8 < 140737488355328 then if List.length ([r19.1] : List E_Node) * 24 < 140737488355328 then again (Sum.inr (t22.1, (Go.IntKind.wrap .i64 (t22.2.1 - (1 : Int))), t22.2.2.1, r19.2.1, r19.2.2.1, r19.2.2.2, t22.2.2.2.2.2.2.1, (t22.2.2.2.2.2.2.2.1 ++ ([r18.1] : List E_i64)), ([r19.1] : List E_Node), t22.2.2.2.2.2.2.2.2.1, t22.2.2.2.2.2.2.2.2.2.1, t22.2.2.2.2.2.2.2.2.2.2)) else none else none else k0 (t22.1, t22.2.2.1, t22.2.2.2.1, t22.2.2.2.2.1, t22.2.2.2.2.2.1, t22.2.2.2.2.2.2.1, t22.2.2.2.2.2.2.2.1, t22.2.2.2.2.2.2.2.2.1, t22.2.2.2.2.2.2.2.2.2.1, t22.2.2.2.2.2.2.2.2.2.2)
 | .inr t22 => Option.bind (bif (decide (t22.2.1 > (0 : Int))) then some (!t22.2.2.2.2.2.1) else some false) fun u20 => bif u20 then Option.bind (F_spec_l16Word (t22.2.2.2.1, t22.2.2.2.2.1, t22.2.2.2.2.2.1)) fun r21 => Option.bind (F_spec_l16Node (r21.2.1, r21.2.2.1, r21.2.2.2)) fun r22 => if (List.length t22.2.2.2.2.2.2.2.1 + List.length ([r21.1] : List E_i64)) * 8 < 140737488355328 then if (List.length t22.2.2.2.2.2.2.2.2.1 + List.length ([r22.1] : List E_Node)) * 24 < 140737488355328 then again (Sum.inr (t22.1, (Go.IntKind.wrap .i64 (t22.2.1 - (1 : Int))), t22.2.2.1, r22.2.1, r22.2.2.1, r22.2.2.2, t22.2.2.2.2.2.2.1, (t22.2.2.2.2.2.2.2.1 ++ ([r21.1] : List E_i64)), (t22.2.2.2.2.2.2.2.2.1 ++ ([r22.1] : List E_Node)), t22.2.2.2.2.2.2.2.2.2.1, t22.2.2.2.2.2.2.2.2.2.2.1, t22.2.2.2.2.2.2.2.2.2.2.2)) else none else none else k1 (t22.1, t22.2.2.1, t22.2.2.2.1, t22.2.2.2.2.1, t22.2.2.2.2.2.1, t22.2.2.2.2.2.2.1, t22.2.2.2.2.2.2.2.1, t22.2.2.2.2.2.2.2.2.1, t22.2.2.2.2.2.2.2.2.2.1, t22.2.2.2.2.2.2.2.2.2.2.1, t22.2.2.2.2.2.2.2.2.2.2.2)
def L_spec_GetPool_22 k0 k1 := iter (@S_spec_GetPool_22 R k0 k1) FUEL
def F_spec_GetPool (x : List E_u8) : Option Qz70 :=
 Option.bind (F_spec_l16Word (x, (0 : Int), false)) fun r1 => Option.bind (F_spec_l16Byte (r1.2.1, r1.2.2.1, r1.2.2.2)) fun r2 => L_spec_GetPool_4 (fun x6 => Option.bind (F_spec_l16Byte (x6.2.2.1, x6.2.2.2.1, x6.2.2.2.2.1)) fun r7 => L_spec_GetPool_10 (fun x10 => L_spec_GetPool_15 (fun x15 => Option.bind (F_spec_l16Byte (x15.2.2.1, x15.2.2.2.1, x15.2.2.2.2.1)) fun r16 => L_spec_GetPool_22 (fun x23 => Option.bind (bif x23.2.2.2.2.1 then some true else some (x23.2.2.2.1 != ((List.length x23.1 : Nat) : Int))) fun u24 => Option.bind (bif u24 then some true else Option.bind (F_spec_PoolOk (x23.2.2.2.2.2.2.1, ([] : List E_Node), x23.2.2.2.2.2.2.2.1, x23.2.2.2.2.2.2.2.2.1, x23.2.2.2.2.2.2.2.2.2, x23.2.2.2.2.2.1)) fun r26 => some (!r26)) fun u25 => bif u25 then some (([] : List E_i64), ([] : List E_Node), ([] : List E_Age), ([] : List E_Cell), ([] : List E_Vol), (0 : Int), false) else some (x23.2.2.2.2.2.2.1, ([] : List E_Node), x23.2.2.2.2.2.2.2.1, x23.2.2.2.2.2.2.2.2.1, x23.2.2.2.2.2.2.2.2.2, x23.2.2.2.2.2.1, true)) (fun x27 => Option.bind (bif x27.2.2.2.2.1 then some true else some (x27.2.2.2.1 != ((List.length x27.1 : Nat) : Int))) fun u28 => Option.bind (bif u28 then some true else Option.bind (F_spec_PoolOk (x27.2.2.2.2.2.2.1, x27.2.2.2.2.2.2.2.1, x27.2.2.2.2.2.2.2.2.1, x27.2.2.2.2.2.2.2.2.2.1, x27.2.2.2.2.2.2.2.2.2.2, x27.2.2.2.2.2.1)) fun r30 => some (!r30)) fun u29 => bif u29 then some (([] : List E_i64), ([] : List E_Node), ([] : List E_Age), ([] : List E_Cell), ([] : List E_Vol), (0 : Int), false) else some (x27.2.2.2.2.2.2.1, x27.2.2.2.2.2.2.2.1, x27.2.2.2.2.2.2.2.2.1, x27.2.2.2.2.2.2.2.2.2.1, x27.2.2.2.2.2.2.2.2.2.2, x27.2.2.2.2.2.1, true)) (Sum.inl (x15.1, r16.1, x15.2.1, r16.2.1, r16.2.2.1, r16.2.2.2, x15.2.2.2.2.2.1, x15.2.2.2.2.2.2.1, x15.2.2.2.2.2.2.2.1, x15.2.2.2.2.2.2.2.2.1, x15.2.2.2.2.2.2.2.2.2))) (x10.1, (0 : Int), x10.2.1, x10.2.2.1, x10.2.2.2.1, x10.2.2.2.2.1, x10.2.2.2.2.2.1, x10.2.2.2.2.2.2.1, x10.2.2.2.2.2.2.2.1, x10.2.2.2.2.2.2.2.2.1, x10.2.2.2.2.2.2.2.2.2)) (x6.1, r7.1, x6.2.1, r7.2.1, r7.2.2.1, r7.2.2.2, x6.2.2.2.2.2.1, x6.2.2.2.2.2.2.1, x6.2.2.2.2.2.2.2.1, x6.2.2.2.2.2.2.2.2.1, x6.2.2.2.2.2.2.2.2.2)) (x, r2.1, (0 : Int), r2.2.1, r2.2.2.1, r2.2.2.2, r1.1, ([] : List E_i64), ([] : List E_Age), ([] : List E_Cell), ([] : List E_Vol))
def f26Q : List QF := [q47, q83, q84, q85, q86, q87]
def f26e4_0 (t : Qz66) : St := ⟨v_u8 t.1 :: .dead :: .box 2 0 :: .dead :: .box 17 0 :: .box 5 0 :: vI t.2.1 :: dd 139 [], [(2, .box [.nils, .nils, .nils, .nils, .nils, vI t.2.2.1]), (17, .box [v_u8 t.2.2.2.1, vI t.2.2.2.2.1, vB t.2.2.2.2.2.1]), (5, .box [.own 10000000, .nils, .own 10000001, .own 10000002, .own 10000003, vI t.2.2.2.2.2.2.1]), (10000000, .root true 3 ts_i64 t.2.2.2.2.2.2.2.1), (10000001, .root true 89 ts_Age t.2.2.2.2.2.2.2.2.1), (10000002, .root true 95 ts_Cell t.2.2.2.2.2.2.2.2.2.1), (10000003, .root true 91 ts_Vol t.2.2.2.2.2.2.2.2.2.2)]⟩
def f26g4 : Gk T_spec_GetPool_4 := fun κ => S_spec_GetPool_4 (fun t => κ (some 0) ⟨v_u8 t.1 :: .dead :: .box 2 0 :: .dead :: .box 17 0 :: .box 5 0 :: dd 140 [], [(2, .box [.nils, .nils, .nils, .nils, .nils, vI t.2.1]), (17, .box [v_u8 t.2.2.1, vI t.2.2.2.1, vB t.2.2.2.2.1]), (5, .box [.own 10000000, .nils, .own 10000001, .own 10000002, .own 10000003, vI t.2.2.2.2.2.1]), (10000000, .root true 3 ts_i64 t.2.2.2.2.2.2.1), (10000001, .root true 89 ts_Age t.2.2.2.2.2.2.2.1), (10000002, .root true 95 ts_Cell t.2.2.2.2.2.2.2.2.1), (10000003, .root true 91 ts_Vol t.2.2.2.2.2.2.2.2.2)]⟩)
def f26e10_0 (t : Qz66) : St := ⟨v_u8 t.1 :: .dead :: .box 2 0 :: .dead :: .box 17 0 :: .box 5 0 :: dd 2 (vI t.2.1 :: dd 137 []), [(2, .box [.nils, .nils, .nils, .nils, .nils, vI t.2.2.1]), (17, .box [v_u8 t.2.2.2.1, vI t.2.2.2.2.1, vB t.2.2.2.2.2.1]), (5, .box [.own 10000000, .nils, .own 10000001, .own 10000002, .own 10000003, vI t.2.2.2.2.2.2.1]), (10000000, .root true 3 ts_i64 t.2.2.2.2.2.2.2.1), (10000001, .root true 89 ts_Age t.2.2.2.2.2.2.2.2.1), (10000002, .root true 95 ts_Cell t.2.2.2.2.2.2.2.2.2.1), (10000003, .root true 91 ts_Vol t.2.2.2.2.2.2.2.2.2.2)]⟩
def f26g10 : Gk T_spec_GetPool_10 := fun κ => S_spec_GetPool_10 (fun t => κ (some 2) ⟨v_u8 t.1 :: .dead :: .box 2 0 :: .dead :: .box 17 0 :: .box 5 0 :: dd 140 [], [(2, .box [.nils, .nils, .nils, .nils, .nils, vI t.2.1]), (17, .box [v_u8 t.2.2.1, vI t.2.2.2.1, vB t.2.2.2.2.1]), (5, .box [.own 10000000, .nils, .own 10000001, .own 10000002, .own 10000003, vI t.2.2.2.2.2.1]), (10000000, .root true 3 ts_i64 t.2.2.2.2.2.2.1), (10000001, .root true 89 ts_Age t.2.2.2.2.2.2.2.1), (10000002, .root true 95 ts_Cell t.2.2.2.2.2.2.2.2.1), (10000003, .root true 91 ts_Vol t.2.2.2.2.2.2.2.2.2)]⟩)
def f26e15_0 (t : Qz66) : St := ⟨v_u8 t.1 :: .dead :: .box 2 0 :: .dead :: .box 17 0 :: .box 5 0 :: dd 4 (vI t.2.1 :: dd 135 []), [(2, .box [.nils, .nils, .nils, .nils, .nils, vI t.2.2.1]), (17, .box [v_u8 t.2.2.2.1, vI t.2.2.2.2.1, vB t.2.2.2.2.2.1]), (5, .box [.own 10000000, .nils, .own 10000001, .own 10000002, .own 10000003, vI t.2.2.2.2.2.2.1]), (10000000, .root true 3 ts_i64 t.2.2.2.2.2.2.2.1), (10000001, .root true 89 ts_Age t.2.2.2.2.2.2.2.2.1), (10000002, .root true 95 ts_Cell t.2.2.2.2.2.2.2.2.2.1), (10000003, .root true 91 ts_Vol t.2.2.2.2.2.2.2.2.2.2)]⟩
def f26g15 : Gk T_spec_GetPool_15 := fun κ => S_spec_GetPool_15 (fun t => κ (some 4) ⟨v_u8 t.1 :: .dead :: .box 2 0 :: .dead :: .box 17 0 :: .box 5 0 :: dd 140 [], [(2, .box [.nils, .nils, .nils, .nils, .nils, vI t.2.1]), (17, .box [v_u8 t.2.2.1, vI t.2.2.2.1, vB t.2.2.2.2.1]), (5, .box [.own 10000000, .nils, .own 10000001, .own 10000002, .own 10000003, vI t.2.2.2.2.2.1]), (10000000, .root true 3 ts_i64 t.2.2.2.2.2.2.1), (10000001, .root true 89 ts_Age t.2.2.2.2.2.2.2.1), (10000002, .root true 95 ts_Cell t.2.2.2.2.2.2.2.2.1), (10000003, .root true 91 ts_Vol t.2.2.2.2.2.2.2.2.2)]⟩)
def f26e22_0 (t : Qz66) : St := ⟨v_u8 t.1 :: .dead :: .box 2 0 :: .dead :: .box 17 0 :: .box 5 0 :: dd 6 (vI t.2.1 :: dd 133 []), [(2, .box [.nils, .nils, .nils, .nils, .nils, vI t.2.2.1]), (17, .box [v_u8 t.2.2.2.1, vI t.2.2.2.2.1, vB t.2.2.2.2.2.1]), (5, .box [.own 10000000, .nils, .own 10000001, .own 10000002, .own 10000003, vI t.2.2.2.2.2.2.1]), (10000000, .root true 3 ts_i64 t.2.2.2.2.2.2.2.1), (10000001, .root true 89 ts_Age t.2.2.2.2.2.2.2.2.1), (10000002, .root true 95 ts_Cell t.2.2.2.2.2.2.2.2.2.1), (10000003, .root true 91 ts_Vol t.2.2.2.2.2.2.2.2.2.2)]⟩
theorem f26v22_0 : ∀ s t, unG qz66 f26e22_0 s = some t → f26e22_0 t = s := unG_ok fun t => by kernel_rfl
def f26e22_1 (t : Qz68) : St := ⟨v_u8 t.1 :: .dead :: .box 2 0 :: .dead :: .box 17 0 :: .box 5 0 :: dd 6 (vI t.2.1 :: dd 133 []), [(2, .box [.nils, .nils, .nils, .nils, .nils, vI t.2.2.1]), (17, .box [v_u8 t.2.2.2.1, vI t.2.2.2.2.1, vB t.2.2.2.2.2.1]), (5, .box [.own 10000000, .own 10000001, .own 10000002, .own 10000003, .own 10000004, vI t.2.2.2.2.2.2.1]), (10000000, .root true 3 ts_i64 t.2.2.2.2.2.2.2.1), (10000001, .root true 98 ts_Node t.2.2.2.2.2.2.2.2.1), (10000002, .root true 89 ts_Age t.2.2.2.2.2.2.2.2.2.1), (10000003, .root true 95 ts_Cell t.2.2.2.2.2.2.2.2.2.2.1), (10000004, .root true 91 ts_Vol t.2.2.2.2.2.2.2.2.2.2.2)]⟩
theorem f26v22_1 : ∀ s t, unG qz68 f26e22_1 s = some t → f26e22_1 t = s := unG_ok fun t => by kernel_rfl
def f26e22r0 : (Qz66 ⊕ Qz68) → St := Sum.elim f26e22_0 f26e22_1
def f26u22r0 (s : St) : Option (Qz66 ⊕ Qz68) := ((unG qz66 f26e22_0 s).map Sum.inl).or (((unG qz68 f26e22_1) s).map Sum.inr)
theorem f26v22r0 : ∀ s t, f26u22r0 s = some t → f26e22r0 t = s := or_un f26v22_0 f26v22_1
def f26g22 : Gk T_spec_GetPool_22 := fun κ => S_spec_GetPool_22 (fun t => κ (some 6) ⟨v_u8 t.1 :: .dead :: .box 2 0 :: .dead :: .box 17 0 :: .box 5 0 :: dd 140 [], [(2, .box [.nils, .nils, .nils, .nils, .nils, vI t.2.1]), (17, .box [v_u8 t.2.2.1, vI t.2.2.2.1, vB t.2.2.2.2.1]), (5, .box [.own 10000000, .nils, .own 10000001, .own 10000002, .own 10000003, vI t.2.2.2.2.2.1]), (10000000, .root true 3 ts_i64 t.2.2.2.2.2.2.1), (10000001, .root true 89 ts_Age t.2.2.2.2.2.2.2.1), (10000002, .root true 95 ts_Cell t.2.2.2.2.2.2.2.2.1), (10000003, .root true 91 ts_Vol t.2.2.2.2.2.2.2.2.2)]⟩) (fun t => κ (some 6) ⟨v_u8 t.1 :: .dead :: .box 2 0 :: .dead :: .box 17 0 :: .box 5 0 :: dd 140 [], [(2, .box [.nils, .nils, .nils, .nils, .nils, vI t.2.1]), (17, .box [v_u8 t.2.2.1, vI t.2.2.2.1, vB t.2.2.2.2.1]), (5, .box [.own 10000000, .own 10000001, .own 10000002, .own 10000003, .own 10000004, vI t.2.2.2.2.2.1]), (10000000, .root true 3 ts_i64 t.2.2.2.2.2.2.1), (10000001, .root true 98 ts_Node t.2.2.2.2.2.2.2.1), (10000002, .root true 89 ts_Age t.2.2.2.2.2.2.2.2.1), (10000003, .root true 95 ts_Cell t.2.2.2.2.2.2.2.2.2.1), (10000004, .root true 91 ts_Vol t.2.2.2.2.2.2.2.2.2.2)]⟩)
def f26P : Lp := lpC 22 f26u22r0 @f26g22 (lpC 15 (unG qz66 f26e15_0) @f26g15 (lpC 10 (unG qz66 f26e10_0) @f26g10 (lpC 4 (unG qz66 f26e4_0) @f26g4 lpN)))
theorem f26C4 : LF f26Q f26P 26 4 Tryz.f26 0 f26e4_0 @f26g4 fun t => t := fun R κ again t => by kernel_rfl
theorem f26k4 : LK f26Q f26P 26 Tryz.f26 0 := lkN (u := (unG qz66 f26e4_0)) (unG_ok fun t => by kernel_rfl) f26C4
theorem f26C10 : LF f26Q f26P 26 10 Tryz.f26 1 f26e10_0 @f26g10 fun t => t := fun R κ again t => by kernel_rfl
theorem f26k10 : LK f26Q f26P 26 Tryz.f26 1 := lkN (u := (unG qz66 f26e10_0)) (unG_ok fun t => by kernel_rfl) f26C10
theorem f26C15 : LF f26Q f26P 26 15 Tryz.f26 2 f26e15_0 @f26g15 fun t => t := fun R κ again t => by kernel_rfl
theorem f26k15 : LK f26Q f26P 26 Tryz.f26 2 := lkN (u := (unG qz66 f26e15_0)) (unG_ok fun t => by kernel_rfl) f26C15
theorem f26C22_0 : LF f26Q f26P 26 22 Tryz.f26 3 f26e22r0 @f26g22 fun v : Qz66 => .inl v := fun R κ again v => by kernel_rfl
theorem f26C22_1 : LF f26Q f26P 26 22 Tryz.f26 3 f26e22r0 @f26g22 fun v : Qz68 => .inr v := fun R κ again v => by kernel_rfl
theorem f26C22 : LF f26Q f26P 26 22 Tryz.f26 3 f26e22r0 @f26g22 fun t => t := (LC.sum f26C22_0 f26C22_1)
theorem f26k22 : LK f26Q f26P 26 Tryz.f26 3 := lkN (u := f26u22r0) f26v22r0 f26C22
theorem ev26 : EV f26Q f26P 26 Tryz.f26 sg26 [(.sl 5 ts_u8)] qz70 F_spec_GetPool := fun x => by kernel_rfl
def q26 : QF := ⟨26, F_spec_GetPool, okN (n := 4) Tryz.func26 ⟨f26k4, f26k10, f26k15, f26k22, trivial⟩ ev26⟩
def F_spec_l17Get (x : Qz4) : Option Int :=
 if (0 : Int) ≤ x.2 then if x.2 < ((List.length x.1 : Nat) : Int) then if (0 : Int) ≤ (Go.IntKind.wrap .i64 (x.2 + (1 : Int))) then if (Go.IntKind.wrap .i64 (x.2 + (1 : Int))) < ((List.length x.1 : Nat) : Int) then if (0 : Int) ≤ (Go.IntKind.wrap .i64 (x.2 + (2 : Int))) then if (Go.IntKind.wrap .i64 (x.2 + (2 : Int))) < ((List.length x.1 : Nat) : Int) then if (0 : Int) ≤ (Go.IntKind.wrap .i64 (x.2 + (3 : Int))) then if (Go.IntKind.wrap .i64 (x.2 + (3 : Int))) < ((List.length x.1 : Nat) : Int) then some (Go.bits .or .i64 (Go.bits .or .i64 (Go.bits .or .i64 (Go.IntKind.wrap .i64 ((Go.IntKind.wrap .i64 (rd_u8 x.1 x.2)) * 2 ^ (min (Int.toNat (24 : Int)) (Go.IntKind.bits .i64)))) (Go.IntKind.wrap .i64 ((Go.IntKind.wrap .i64 (rd_u8 x.1 (Go.IntKind.wrap .i64 (x.2 + (1 : Int))))) * 2 ^ (min (Int.toNat (16 : Int)) (Go.IntKind.bits .i64))))) (Go.IntKind.wrap .i64 ((Go.IntKind.wrap .i64 (rd_u8 x.1 (Go.IntKind.wrap .i64 (x.2 + (2 : Int))))) * 2 ^ (min (Int.toNat (8 : Int)) (Go.IntKind.bits .i64))))) (Go.IntKind.wrap .i64 (rd_u8 x.1 (Go.IntKind.wrap .i64 (x.2 + (3 : Int)))))) else none else none else none else none else none else none else none else none
theorem ev149 : EV [] lpN 149 Tryz.f149 sg149 qz4 [(.int .i64)] F_spec_l17Get := fun x => by kernel_rfl
def q149 : QF := ⟨149, F_spec_l17Get, okN (n := 0) Tryz.func149 trivial ev149⟩
abbrev T_spec_Crc_7 : Type := Qz71
def S_spec_Crc_7 (k0 : Qz5 → Option R) (again : T_spec_Crc_7 → Option R) (t7 : T_spec_Crc_7) : Option R :=
 bif (decide (t7.2.2.2 < (8 : Int))) then bif ((Go.bits .and .i64 t7.2.1 (1 : Int)) == (1 : Int)) then again (t7.1, (Go.bits .xor .i64 (Int.fdiv t7.2.1 (2 ^ (min (Int.toNat (1 : Int)) (Go.IntKind.bits .i64)))) (2197175160 : Int)), t7.2.2.1, (Go.IntKind.wrap .i64 (t7.2.2.2 + (1 : Int)))) else again (t7.1, (Int.fdiv t7.2.1 (2 ^ (min (Int.toNat (1 : Int)) (Go.IntKind.bits .i64)))), t7.2.2.1, (Go.IntKind.wrap .i64 (t7.2.2.2 + (1 : Int)))) else k0 (t7.1, t7.2.1, t7.2.2.1)
def L_spec_Crc_7 k0 := iter (@S_spec_Crc_7 R k0) FUEL
abbrev T_spec_Crc_3 : Type := Qz5
def S_spec_Crc_3 (k0 : Int → Option R) (again : T_spec_Crc_3 → Option R) (t3 : T_spec_Crc_3) : Option R :=
 bif (decide (t3.2.2 < ((List.length t3.1 : Nat) : Int))) then if (0 : Int) ≤ t3.2.2 then if t3.2.2 < ((List.length t3.1 : Nat) : Int) then L_spec_Crc_7 (fun x1 => again (x1.1, x1.2.1, (Go.IntKind.wrap .i64 (x1.2.2 + (1 : Int))))) (t3.1, (Go.bits .xor .i64 t3.2.1 (Go.IntKind.wrap .i64 (rd_u8 t3.1 t3.2.2))), t3.2.2, (0 : Int)) else none else none else k0 t3.2.1
def L_spec_Crc_3 k0 := iter (@S_spec_Crc_3 R k0) FUEL
def F_spec_Crc (x : List E_u8) : Option Int :=
 L_spec_Crc_3 (fun x2 => some (Go.bits .xor .i64 x2 (4294967295 : Int))) (x, (4294967295 : Int), (0 : Int))
def f150Q : List QF := []
def f150e7_0 (t : Qz71) : St := ⟨v_u8 t.1 :: dd 2 (vI t.2.1 :: vI t.2.2.1 :: vI t.2.2.2 :: dd 27 []), []⟩
def f150g7 : Gk T_spec_Crc_7 := fun κ => S_spec_Crc_7 (fun t => κ (some 2) ⟨v_u8 t.1 :: dd 2 (vI t.2.1 :: vI t.2.2 :: dd 28 []), []⟩)
def f150e3_0 (t : Qz5) : St := ⟨v_u8 t.1 :: dd 2 (vI t.2.1 :: vI t.2.2 :: dd 28 []), []⟩
def f150g3 : Gk T_spec_Crc_3 := fun κ => S_spec_Crc_3 (fun t => κ (some 0) ⟨dd 3 (vI t :: dd 29 []), []⟩)
def f150P : Lp := lpC 3 (unG qz5 f150e3_0) @f150g3 (lpC 7 (unG qz71 f150e7_0) @f150g7 lpN)
theorem f150C7 : LF f150Q f150P 150 7 Tryz.f150 1 f150e7_0 @f150g7 fun t => t := fun R κ again t => by kernel_rfl
theorem f150k7 : LK f150Q f150P 150 Tryz.f150 1 := lkN (u := (unG qz71 f150e7_0)) (unG_ok fun t => by kernel_rfl) f150C7
theorem f150C3 : LF f150Q f150P 150 3 Tryz.f150 0 f150e3_0 @f150g3 fun t => t := fun R κ again t => by kernel_rfl
theorem f150k3 : LK f150Q f150P 150 Tryz.f150 0 := lkN (u := (unG qz5 f150e3_0)) (unG_ok fun t => by kernel_rfl) f150C3
theorem ev150 : EV f150Q f150P 150 Tryz.f150 sg150 [(.sl 5 ts_u8)] [(.int .i64)] F_spec_Crc := fun x => by kernel_rfl
def q150 : QF := ⟨150, F_spec_Crc, okN (n := 2) Tryz.func150 ⟨f150k3, f150k7, trivial⟩ ev150⟩
def F_spec_SuperOk (x : Qz23) : Option Bool :=
 Option.bind (F_spec_l1In (x.1, (1 : Int), (60000 : Int))) fun r1 => Option.bind (bif r1 then Option.bind (F_spec_l1In (x.2.1, (0 : Int), (1 : Int))) fun r3 => some r3 else some false) fun u2 => Option.bind (bif u2 then Option.bind (F_spec_l1In (x.2.2.1, (0 : Int), (1680 : Int))) fun r5 => some r5 else some false) fun u4 => Option.bind (bif u4 then Option.bind (F_spec_l1In (x.2.2.2.1, (0 : Int), (4294967295 : Int))) fun r7 => some r7 else some false) fun u6 => Option.bind (bif u6 then Option.bind (F_spec_l1In (x.2.2.2.2, (1 : Int), (60000 : Int))) fun r9 => some r9 else some false) fun u8 => some u8
theorem ev152 : EV [q107] lpN 152 Tryz.f152 sg152 qz23 [.bool] F_spec_SuperOk := fun x => by kernel_rfl
def q152 : QF := ⟨152, F_spec_SuperOk, okN (n := 0) Tryz.func152 trivial ev152⟩
def F_spec_GetSuper (x : List E_u8) : Option Qz72 :=
 Option.bind (bif (((List.length x : Nat) : Int) != (15 : Int)) then some true else Option.bind (F_spec_l17Get (x, (11 : Int))) fun r2 => if (0 : Int) ≤ (0 : Int) then if (0 : Int) ≤ (11 : Int) then if (11 : Int) ≤ ((List.length x : Nat) : Int) then Option.bind (F_spec_Crc (List.drop (Int.toNat (0 : Int)) (List.take (Int.toNat (11 : Int)) x))) fun r3 => some (r2 != r3) else none else none else none) fun u1 => bif u1 then some ((0 : Int), (0 : Int), (0 : Int), (0 : Int), (0 : Int), false) else Option.bind (F_spec_GetW (x, (0 : Int))) fun r4 => Option.bind (F_spec_GetW (x, (3 : Int))) fun r5 => Option.bind (F_spec_GetW (x, (9 : Int))) fun r6 => if (0 : Int) ≤ (2 : Int) then if (2 : Int) < ((List.length x : Nat) : Int) then Option.bind (F_spec_l17Get (x, (5 : Int))) fun r7 => Option.bind (F_spec_SuperOk (r4.1, (Go.IntKind.wrap .i64 (rd_u8 x (2 : Int))), r5.1, r7, r6.1)) fun r8 => bif (!r8) then some ((0 : Int), (0 : Int), (0 : Int), (0 : Int), (0 : Int), false) else some (r4.1, (Go.IntKind.wrap .i64 (rd_u8 x (2 : Int))), r5.1, r7, r6.1, true) else none else none
theorem ev71 : EV [q149, q150, q151, q152] lpN 71 Tryz.f71 sg71 [(.sl 5 ts_u8)] qz72 F_spec_GetSuper := fun x => by kernel_rfl
def q71 : QF := ⟨71, F_spec_GetSuper, okN (n := 0) Tryz.func71 trivial ev71⟩
abbrev T_spec_DevOk_2 : Type := Qz73
def S_spec_DevOk_2 (k0 : Qz74 → Option R) (k1 : Qz75 → Option R) (again : T_spec_DevOk_2 → Option R) (t2 : T_spec_DevOk_2) : Option R :=
 bif (decide (t2.1 < ((List.length t2.2.1 : Nat) : Int))) then if (0 : Int) ≤ t2.1 then if t2.1 < ((List.length t2.2.1 : Nat) : Int) then bif (decide (((List.length (rd_s_u8 t2.2.1 t2.1) : Nat) : Int) > (80 : Int))) then k0 (false, t2.2.1, t2.2.2.1, t2.2.2.2.1, t2.2.2.2.2) else again ((Go.IntKind.wrap .i64 (t2.1 + (1 : Int))), t2.2.1, t2.2.2.1, t2.2.2.2.1, t2.2.2.2.2) else none else none else k1 (t2.2.1, t2.2.2.1, t2.2.2.2.1, t2.2.2.2.2)
def L_spec_DevOk_2 k0 k1 := iter (@S_spec_DevOk_2 R k0 k1) FUEL
abbrev T_spec_DevOk_7 : Type := Qz73
def S_spec_DevOk_7 (k0 : Qz74 → Option R) (k1 : Qz75 → Option R) (again : T_spec_DevOk_7 → Option R) (t7 : T_spec_DevOk_7) : Option R :=
 bif (decide (t7.1 < ((List.length t7.2.2.1 : Nat) : Int))) then if (0 : Int) ≤ t7.1 then if t7.1 < ((List.length t7.2.2.1 : Nat) : Int) then Option.bind (F_spec_l1In ((rd_Wr t7.2.2.1 t7.1).1, (0 : Int), (Go.IntKind.wrap .i64 (((List.length t7.2.1 : Nat) : Int) - (1 : Int))))) fun r3 => Option.bind (bif (!r3) then some true else if (0 : Int) ≤ t7.1 then if t7.1 < ((List.length t7.2.2.1 : Nat) : Int) then some (decide (((List.length ((rd_Wr t7.2.2.1 t7.1).2) : Nat) : Int) > (80 : Int))) else none else none) fun u4 => bif u4 then k0 (false, t7.2.1, t7.2.2.1, t7.2.2.2.1, t7.2.2.2.2) else again ((Go.IntKind.wrap .i64 (t7.1 + (1 : Int))), t7.2.1, t7.2.2.1, t7.2.2.2.1, t7.2.2.2.2) else none else none else k1 (t7.2.1, t7.2.2.1, t7.2.2.2.1, t7.2.2.2.2)
def L_spec_DevOk_7 k0 k1 := iter (@S_spec_DevOk_7 R k0 k1) FUEL
def F_spec_DevOk (x : Qz75) : Option Bool :=
 L_spec_DevOk_2 (fun x1 => some x1.1) (fun x2 => L_spec_DevOk_7 (fun x5 => some x5.1) (fun x6 => Option.bind (F_spec_l1In (((List.length x6.1 : Nat) : Int), (1 : Int), (60 : Int))) fun r7 => Option.bind (bif r7 then some (decide (((List.length x6.2.1 : Nat) : Int) ≤ (60 : Int))) else some false) fun u8 => Option.bind (bif u8 then Option.bind (F_spec_l1In (x6.2.2.1, (-1 : Int), (1000 : Int))) fun r10 => some r10 else some false) fun u9 => some u9) ((0 : Int), x2.1, x2.2.1, x2.2.2.1, x2.2.2.2)) ((0 : Int), x.1, x.2.1, x.2.2.1, x.2.2.2)
def f153Q : List QF := [q107]
def f153e2_0 (t : Qz73) : St := ⟨.dead :: .box 1 0 :: .dead :: vI t.1 :: dd 59 [], [(1, .box [v_s_u8 t.2.1, v_Wr t.2.2.1, vI t.2.2.2.1, vB t.2.2.2.2])]⟩
def f153g2 : Gk T_spec_DevOk_2 := fun κ => S_spec_DevOk_2 (fun t => κ none ⟨.dead :: .box 1 0 :: vB t.1 :: dd 60 [], [(1, .box [v_s_u8 t.2.1, v_Wr t.2.2.1, vI t.2.2.2.1, vB t.2.2.2.2])]⟩) (fun t => κ (some 0) ⟨.dead :: .box 1 0 :: dd 61 [], [(1, .box [v_s_u8 t.1, v_Wr t.2.1, vI t.2.2.1, vB t.2.2.2])]⟩)
def f153e7_0 (t : Qz73) : St := ⟨.dead :: .box 1 0 :: dd 2 (vI t.1 :: dd 58 []), [(1, .box [v_s_u8 t.2.1, v_Wr t.2.2.1, vI t.2.2.2.1, vB t.2.2.2.2])]⟩
def f153g7 : Gk T_spec_DevOk_7 := fun κ => S_spec_DevOk_7 (fun t => κ none ⟨.dead :: .box 1 0 :: vB t.1 :: dd 60 [], [(1, .box [v_s_u8 t.2.1, v_Wr t.2.2.1, vI t.2.2.2.1, vB t.2.2.2.2])]⟩) (fun t => κ (some 2) ⟨.dead :: .box 1 0 :: dd 61 [], [(1, .box [v_s_u8 t.1, v_Wr t.2.1, vI t.2.2.1, vB t.2.2.2])]⟩)
def f153P : Lp := lpC 7 (unG qz73 f153e7_0) @f153g7 (lpC 2 (unG qz73 f153e2_0) @f153g2 lpN)
theorem f153C2 : LF f153Q f153P 153 2 Tryz.f153 0 f153e2_0 @f153g2 fun t => t := fun R κ again t => by kernel_rfl
theorem f153k2 : LK f153Q f153P 153 Tryz.f153 0 := lkN (u := (unG qz73 f153e2_0)) (unG_ok fun t => by kernel_rfl) f153C2
theorem f153C7 : LF f153Q f153P 153 7 Tryz.f153 1 f153e7_0 @f153g7 fun t => t := fun R κ again t => by kernel_rfl
theorem f153k7 : LK f153Q f153P 153 Tryz.f153 1 := lkN (u := (unG qz73 f153e7_0)) (unG_ok fun t => by kernel_rfl) f153C7
theorem ev153 : EV f153Q f153P 153 Tryz.f153 sg153 qz75 [.bool] F_spec_DevOk := fun x => by kernel_rfl
def q153 : QF := ⟨153, F_spec_DevOk, okN (n := 2) Tryz.func153 ⟨f153k2, f153k7, trivial⟩ ev153⟩
abbrev T_spec_ReadSec_5 : Type := Qz76
def S_spec_ReadSec_5 (k0 : List E_u8 → Option R) (again : T_spec_ReadSec_5 → Option R) (t5 : T_spec_ReadSec_5) : Option R :=
 bif (decide (t5.2.2.1 < ((List.length t5.2.2.2.2.1 : Nat) : Int))) then if (0 : Int) ≤ t5.2.2.1 then if t5.2.2.1 < ((List.length t5.2.2.2.2.1 : Nat) : Int) then bif ((rd_Wr t5.2.2.2.2.1 t5.2.2.1).1 == t5.1) then if (0 : Int) ≤ t5.2.2.1 then if t5.2.2.1 < ((List.length t5.2.2.2.2.1 : Nat) : Int) then again (t5.1, (rd_Wr t5.2.2.2.2.1 t5.2.2.1).2, (Go.IntKind.wrap .i64 (t5.2.2.1 + (1 : Int))), t5.2.2.2.1, t5.2.2.2.2.1, t5.2.2.2.2.2.1, t5.2.2.2.2.2.2) else none else none else again (t5.1, t5.2.1, (Go.IntKind.wrap .i64 (t5.2.2.1 + (1 : Int))), t5.2.2.2.1, t5.2.2.2.2.1, t5.2.2.2.2.2.1, t5.2.2.2.2.2.2) else none else none else k0 t5.2.1
def L_spec_ReadSec_5 k0 := iter (@S_spec_ReadSec_5 R k0) FUEL
def F_spec_ReadSec (x : Qz77) : Option (List E_u8) :=
 Option.bind (F_spec_DevOk (x.1, x.2.1, x.2.2.1, x.2.2.2.1)) fun r1 => Option.bind (bif (!r1) then some true else Option.bind (F_spec_l1In (x.2.2.2.2, (0 : Int), (Go.IntKind.wrap .i64 (((List.length x.1 : Nat) : Int) - (1 : Int))))) fun r3 => some (!r3)) fun u2 => bif u2 then some ([] : List E_u8) else if (0 : Int) ≤ x.2.2.2.2 then if x.2.2.2.2 < ((List.length x.1 : Nat) : Int) then L_spec_ReadSec_5 (fun x4 => if (List.length ([] : List E_u8) + List.length x4) * 1 < 140737488355328 then some (([] : List E_u8) ++ x4) else none) (x.2.2.2.2, (rd_s_u8 x.1 x.2.2.2.2), (0 : Int), x.1, x.2.1, x.2.2.1, x.2.2.2.1) else none else none
def f72Q : List QF := [q107, q153]
def f72e5_0 (t : Qz76) : St := ⟨.dead :: vI t.1 :: .box 2 0 :: dd 2 (v_u8 t.2.1 :: vI t.2.2.1 :: dd 42 []), [(2, .box [v_s_u8 t.2.2.2.1, v_Wr t.2.2.2.2.1, vI t.2.2.2.2.2.1, vB t.2.2.2.2.2.2])]⟩
def f72g5 : Gk T_spec_ReadSec_5 := fun κ => S_spec_ReadSec_5 (fun t => κ (some 0) ⟨dd 5 (v_u8 t :: dd 43 []), []⟩)
def f72P : Lp := lpC 5 (unG qz76 f72e5_0) @f72g5 lpN
theorem f72C5 : LF f72Q f72P 72 5 Tryz.f72 0 f72e5_0 @f72g5 fun t => t := fun R κ again t => by kernel_rfl
theorem f72k5 : LK f72Q f72P 72 Tryz.f72 0 := lkN (u := (unG qz76 f72e5_0)) (unG_ok fun t => by kernel_rfl) f72C5
theorem ev72 : EV f72Q f72P 72 Tryz.f72 sg72 qz77 [(.sl 5 ts_u8)] F_spec_ReadSec := fun x => by kernel_rfl
def q72 : QF := ⟨72, F_spec_ReadSec, okN (n := 1) Tryz.func72 ⟨f72k5, trivial⟩ ev72⟩
def F_spec_PartAt (x : Qz6) : Option Int :=
 Option.bind (F_spec_l1In (x.1, (0 : Int), (1 : Int))) fun r1 => Option.bind (bif (!r1) then some true else Option.bind (F_spec_l1In (x.2, (0 : Int), (23 : Int))) fun r3 => some (!r3)) fun u2 => bif u2 then some (-1 : Int) else some (Go.IntKind.wrap .i64 ((Go.IntKind.wrap .i64 ((8 : Int) + (Go.IntKind.wrap .i64 (x.1 * (24 : Int))))) + x.2))
theorem ev154 : EV [q107] lpN 154 Tryz.f154 sg154 qz6 [(.int .i64)] F_spec_PartAt := fun x => by kernel_rfl
def q154 : QF := ⟨154, F_spec_PartAt, okN (n := 0) Tryz.func154 trivial ev154⟩
abbrev T_spec_ReadImage_3 : Type := Qz78
def S_spec_ReadImage_3 (k0 : Qz79 → Option R) (again : T_spec_ReadImage_3 → Option R) (t3 : T_spec_ReadImage_3) : Option R :=
 Option.bind (bif (decide (t3.1 < (24 : Int))) then some (decide (((List.length t3.2.2.2.2.2.2.2.2.2.2 : Nat) : Int) < t3.2.2.2.2.2.2.2.1)) else some false) fun u1 => bif u1 then Option.bind (F_spec_PartAt (t3.2.2.2.2.2.2.1, t3.1)) fun r2 => Option.bind (F_spec_ReadSec (t3.2.1, t3.2.2.1, t3.2.2.2.1, t3.2.2.2.2.1, r2)) fun r3 => if (List.length t3.2.2.2.2.2.2.2.2.2.2 + List.length r3) * 1 < 140737488355328 then again ((Go.IntKind.wrap .i64 (t3.1 + (1 : Int))), t3.2.1, t3.2.2.1, t3.2.2.2.1, t3.2.2.2.2.1, t3.2.2.2.2.2.1, t3.2.2.2.2.2.2.1, t3.2.2.2.2.2.2.2.1, t3.2.2.2.2.2.2.2.2.1, t3.2.2.2.2.2.2.2.2.2.1, (t3.2.2.2.2.2.2.2.2.2.2 ++ r3)) else none else k0 (t3.2.2.2.2.2.1, t3.2.2.2.2.2.2.1, t3.2.2.2.2.2.2.2.1, t3.2.2.2.2.2.2.2.2.1, t3.2.2.2.2.2.2.2.2.2.1, t3.2.2.2.2.2.2.2.2.2.2)
def L_spec_ReadImage_3 k0 := iter (@S_spec_ReadImage_3 R k0) FUEL
def F_spec_ReadImage (x : Qz80) : Option Qz81 :=
 L_spec_ReadImage_3 (fun x4 => Option.bind (bif (decide (x4.2.2.1 < (0 : Int))) then some true else some (decide (((List.length x4.2.2.2.2.2 : Nat) : Int) < x4.2.2.1))) fun u5 => bif u5 then some (([] : List E_u8), false) else if (0 : Int) ≤ (0 : Int) then if (0 : Int) ≤ x4.2.2.1 then if x4.2.2.1 ≤ ((List.length x4.2.2.2.2.2 : Nat) : Int) then Option.bind (F_spec_Crc (List.drop (Int.toNat (0 : Int)) (List.take (Int.toNat x4.2.2.1) x4.2.2.2.2.2))) fun r6 => bif (r6 != x4.2.2.2.1) then some (([] : List E_u8), false) else if (0 : Int) ≤ (0 : Int) then if (0 : Int) ≤ x4.2.2.1 then if x4.2.2.1 ≤ ((List.length x4.2.2.2.2.2 : Nat) : Int) then if (List.length ([] : List E_u8) + List.length (List.drop (Int.toNat (0 : Int)) (List.take (Int.toNat x4.2.2.1) x4.2.2.2.2.2))) * 1 < 140737488355328 then some ((([] : List E_u8) ++ (List.drop (Int.toNat (0 : Int)) (List.take (Int.toNat x4.2.2.1) x4.2.2.2.2.2))), true) else none else none else none else none else none else none else none) ((0 : Int), x.1, x.2.1, x.2.2.1, x.2.2.2.1, x.2.2.2.2.1, x.2.2.2.2.2.1, x.2.2.2.2.2.2.1, x.2.2.2.2.2.2.2.1, x.2.2.2.2.2.2.2.2, ([] : List E_u8))
def f73Q : List QF := [q72, q150, q154]
def f73e3_0 (t : Qz78) : St := ⟨dd 2 (.box 2 0 :: .box 3 0 :: dd 2 (.own 10000000 :: vI t.1 :: dd 47 [])), [(2, .box [v_s_u8 t.2.1, v_Wr t.2.2.1, vI t.2.2.2.1, vB t.2.2.2.2.1]), (3, .box [vI t.2.2.2.2.2.1, vI t.2.2.2.2.2.2.1, vI t.2.2.2.2.2.2.2.1, vI t.2.2.2.2.2.2.2.2.1, vI t.2.2.2.2.2.2.2.2.2.1]), (10000000, .root true 5 ts_u8 t.2.2.2.2.2.2.2.2.2.2)]⟩
def f73g3 : Gk T_spec_ReadImage_3 := fun κ => S_spec_ReadImage_3 (fun t => κ (some 0) ⟨dd 3 (.box 3 0 :: dd 2 (.own 10000000 :: dd 48 [])), [(3, .box [vI t.1, vI t.2.1, vI t.2.2.1, vI t.2.2.2.1, vI t.2.2.2.2.1]), (10000000, .root true 5 ts_u8 t.2.2.2.2.2)]⟩)
def f73P : Lp := lpC 3 (unG qz78 f73e3_0) @f73g3 lpN
theorem f73C3 : LF f73Q f73P 73 3 Tryz.f73 0 f73e3_0 @f73g3 fun t => t := fun R κ again t => by kernel_rfl
theorem f73k3 : LK f73Q f73P 73 Tryz.f73 0 := lkN (u := (unG qz78 f73e3_0)) (unG_ok fun t => by kernel_rfl) f73C3
theorem ev73 : EV f73Q f73P 73 Tryz.f73 sg73 qz80 qz81 F_spec_ReadImage := fun x => by kernel_rfl
def q73 : QF := ⟨73, F_spec_ReadImage, okN (n := 1) Tryz.func73 ⟨f73k3, trivial⟩ ev73⟩
abbrev T_spec_BestOf_5 : Type := Qz82 ⊕ Qz83
def S_spec_BestOf_5 (k0 : Qz84 → Option R) (k1 : Qz85 → Option R) (again : T_spec_BestOf_5 → Option R) : T_spec_BestOf_5 → Option R
 | .inl t5 => bif (decide (t5.2.1 < (2 : Int))) then Option.bind (F_spec_ReadSec (t5.2.2.1, t5.2.2.2.1, t5.2.2.2.2.1, t5.2.2.2.2.2.1, t5.2.1)) fun r1 => Option.bind (F_spec_GetSuper r1) fun r2 => Option.bind (bif (!r2.2.2.2.2.2) then some true else some ((Int.tmod r2.1 (2 : Int)) != t5.2.1)) fun u3 => Option.bind (bif u3 then some true else Option.bind (bif t5.1 then some (decide (r2.1 < t5.2.2.2.2.2.2.2.2.2.2.2.1)) else some false) fun u5 => some u5) fun u4 => bif u4 then again (Sum.inl (t5.1, (Go.IntKind.wrap .i64 (t5.2.1 + (1 : Int))), t5.2.2.1, t5.2.2.2.1, t5.2.2.2.2.1, t5.2.2.2.2.2.1, t5.2.2.2.2.2.2.1, t5.2.2.2.2.2.2.2.1, t5.2.2.2.2.2.2.2.2.1, t5.2.2.2.2.2.2.2.2.2.1, t5.2.2.2.2.2.2.2.2.2.2.1, t5.2.2.2.2.2.2.2.2.2.2.2.1, t5.2.2.2.2.2.2.2.2.2.2.2.2.1, t5.2.2.2.2.2.2.2.2.2.2.2.2.2.1, t5.2.2.2.2.2.2.2.2.2.2.2.2.2.2.1, t5.2.2.2.2.2.2.2.2.2.2.2.2.2.2.2.1, t5.2.2.2.2.2.2.2.2.2.2.2.2.2.2.2.2)) else Option.bind (F_spec_ReadImage (t5.2.2.1, t5.2.2.2.1, t5.2.2.2.2.1, t5.2.2.2.2.2.1, r2.1, r2.2.1, r2.2.2.1, r2.2.2.2.1, r2.2.2.2.2.1)) fun r6 => Option.bind (F_spec_GetPool r6.1) fun r7 => Option.bind (bif r6.2 then some r7.2.2.2.2.2.2 else some false) fun u8 => bif u8 then again (Sum.inr (r6.1, true, (Go.IntKind.wrap .i64 (t5.2.1 + (1 : Int))), t5.2.2.1, t5.2.2.2.1, t5.2.2.2.2.1, t5.2.2.2.2.2.1, t5.2.2.2.2.2.2.1, t5.2.2.2.2.2.2.2.1, t5.2.2.2.2.2.2.2.2.1, t5.2.2.2.2.2.2.2.2.2.1, t5.2.2.2.2.2.2.2.2.2.2.1, r2.1, r2.2.1, r2.2.2.1, r2.2.2.2.1, r2.2.2.2.2.1)) else again (Sum.inl (t5.1, (Go.IntKind.wrap .i64 (t5.2.1 + (1 : Int))), t5.2.2.1, t5.2.2.2.1, t5.2.2.2.2.1, t5.2.2.2.2.2.1, t5.2.2.2.2.2.2.1, t5.2.2.2.2.2.2.2.1, t5.2.2.2.2.2.2.2.2.1, t5.2.2.2.2.2.2.2.2.2.1, t5.2.2.2.2.2.2.2.2.2.2.1, t5.2.2.2.2.2.2.2.2.2.2.2.1, t5.2.2.2.2.2.2.2.2.2.2.2.2.1, t5.2.2.2.2.2.2.2.2.2.2.2.2.2.1, t5.2.2.2.2.2.2.2.2.2.2.2.2.2.2.1, t5.2.2.2.2.2.2.2.2.2.2.2.2.2.2.2.1, t5.2.2.2.2.2.2.2.2.2.2.2.2.2.2.2.2)) else k0 (t5.1, t5.2.2.2.2.2.2.1, t5.2.2.2.2.2.2.2.1, t5.2.2.2.2.2.2.2.2.1, t5.2.2.2.2.2.2.2.2.2.1, t5.2.2.2.2.2.2.2.2.2.2.1, t5.2.2.2.2.2.2.2.2.2.2.2.1, t5.2.2.2.2.2.2.2.2.2.2.2.2.1, t5.2.2.2.2.2.2.2.2.2.2.2.2.2.1, t5.2.2.2.2.2.2.2.2.2.2.2.2.2.2.1, t5.2.2.2.2.2.2.2.2.2.2.2.2.2.2.2.1, t5.2.2.2.2.2.2.2.2.2.2.2.2.2.2.2.2)
 | .inr t5 => bif (decide (t5.2.2.1 < (2 : Int))) then Option.bind (F_spec_ReadSec (t5.2.2.2.1, t5.2.2.2.2.1, t5.2.2.2.2.2.1, t5.2.2.2.2.2.2.1, t5.2.2.1)) fun r9 => Option.bind (F_spec_GetSuper r9) fun r10 => Option.bind (bif (!r10.2.2.2.2.2) then some true else some ((Int.tmod r10.1 (2 : Int)) != t5.2.2.1)) fun u11 => Option.bind (bif u11 then some true else Option.bind (bif t5.2.1 then some (decide (r10.1 < t5.2.2.2.2.2.2.2.2.2.2.2.2.1)) else some false) fun u13 => some u13) fun u12 => bif u12 then again (Sum.inr (t5.1, t5.2.1, (Go.IntKind.wrap .i64 (t5.2.2.1 + (1 : Int))), t5.2.2.2.1, t5.2.2.2.2.1, t5.2.2.2.2.2.1, t5.2.2.2.2.2.2.1, t5.2.2.2.2.2.2.2.1, t5.2.2.2.2.2.2.2.2.1, t5.2.2.2.2.2.2.2.2.2.1, t5.2.2.2.2.2.2.2.2.2.2.1, t5.2.2.2.2.2.2.2.2.2.2.2.1, t5.2.2.2.2.2.2.2.2.2.2.2.2.1, t5.2.2.2.2.2.2.2.2.2.2.2.2.2.1, t5.2.2.2.2.2.2.2.2.2.2.2.2.2.2.1, t5.2.2.2.2.2.2.2.2.2.2.2.2.2.2.2.1, t5.2.2.2.2.2.2.2.2.2.2.2.2.2.2.2.2)) else Option.bind (F_spec_ReadImage (t5.2.2.2.1, t5.2.2.2.2.1, t5.2.2.2.2.2.1, t5.2.2.2.2.2.2.1, r10.1, r10.2.1, r10.2.2.1, r10.2.2.2.1, r10.2.2.2.2.1)) fun r14 => Option.bind (F_spec_GetPool r14.1) fun r15 => Option.bind (bif r14.2 then some r15.2.2.2.2.2.2 else some false) fun u16 => bif u16 then again (Sum.inr (r14.1, true, (Go.IntKind.wrap .i64 (t5.2.2.1 + (1 : Int))), t5.2.2.2.1, t5.2.2.2.2.1, t5.2.2.2.2.2.1, t5.2.2.2.2.2.2.1, t5.2.2.2.2.2.2.2.1, t5.2.2.2.2.2.2.2.2.1, t5.2.2.2.2.2.2.2.2.2.1, t5.2.2.2.2.2.2.2.2.2.2.1, t5.2.2.2.2.2.2.2.2.2.2.2.1, r10.1, r10.2.1, r10.2.2.1, r10.2.2.2.1, r10.2.2.2.2.1)) else again (Sum.inr (t5.1, t5.2.1, (Go.IntKind.wrap .i64 (t5.2.2.1 + (1 : Int))), t5.2.2.2.1, t5.2.2.2.2.1, t5.2.2.2.2.2.1, t5.2.2.2.2.2.2.1, t5.2.2.2.2.2.2.2.1, t5.2.2.2.2.2.2.2.2.1, t5.2.2.2.2.2.2.2.2.2.1, t5.2.2.2.2.2.2.2.2.2.2.1, t5.2.2.2.2.2.2.2.2.2.2.2.1, t5.2.2.2.2.2.2.2.2.2.2.2.2.1, t5.2.2.2.2.2.2.2.2.2.2.2.2.2.1, t5.2.2.2.2.2.2.2.2.2.2.2.2.2.2.1, t5.2.2.2.2.2.2.2.2.2.2.2.2.2.2.2.1, t5.2.2.2.2.2.2.2.2.2.2.2.2.2.2.2.2)) else k1 (t5.1, t5.2.1, t5.2.2.2.2.2.2.2.1, t5.2.2.2.2.2.2.2.2.1, t5.2.2.2.2.2.2.2.2.2.1, t5.2.2.2.2.2.2.2.2.2.2.1, t5.2.2.2.2.2.2.2.2.2.2.2.1, t5.2.2.2.2.2.2.2.2.2.2.2.2.1, t5.2.2.2.2.2.2.2.2.2.2.2.2.2.1, t5.2.2.2.2.2.2.2.2.2.2.2.2.2.2.1, t5.2.2.2.2.2.2.2.2.2.2.2.2.2.2.2.1, t5.2.2.2.2.2.2.2.2.2.2.2.2.2.2.2.2)
def L_spec_BestOf_5 k0 k1 := iter (@S_spec_BestOf_5 R k0 k1) FUEL
def F_spec_BestOf (x : Qz75) : Option Qz86 :=
 L_spec_BestOf_5 (fun x17 => some (x17.2.2.2.2.2.2.1, x17.2.2.2.2.2.2.2.1, x17.2.2.2.2.2.2.2.2.1, x17.2.2.2.2.2.2.2.2.2.1, x17.2.2.2.2.2.2.2.2.2.2.1, x17.2.2.2.2.2.2.2.2.2.2.2, x17.1)) (fun x18 => some (x18.2.2.2.2.2.2.2.1, x18.2.2.2.2.2.2.2.2.1, x18.2.2.2.2.2.2.2.2.2.1, x18.2.2.2.2.2.2.2.2.2.2.1, x18.2.2.2.2.2.2.2.2.2.2.2, x18.1, x18.2.1)) (Sum.inl (false, (0 : Int), x.1, x.2.1, x.2.2.1, x.2.2.2, (0 : Int), (0 : Int), (0 : Int), (0 : Int), (0 : Int), (0 : Int), (0 : Int), (0 : Int), (0 : Int), (0 : Int), ([] : List E_u8)))
def f20Q : List QF := [q26, q71, q72, q73]
def f20e5_0 (t : Qz82) : St := ⟨.dead :: .box 1 0 :: .box 2 0 :: dd 2 (.box 5 0 :: .own 10000000 :: vB t.1 :: vI t.2.1 :: dd 58 []), [(1, .box [v_s_u8 t.2.2.1, v_Wr t.2.2.2.1, vI t.2.2.2.2.1, vB t.2.2.2.2.2.1]), (2, .box [vI t.2.2.2.2.2.2.1, vI t.2.2.2.2.2.2.2.1, vI t.2.2.2.2.2.2.2.2.1, vI t.2.2.2.2.2.2.2.2.2.1, vI t.2.2.2.2.2.2.2.2.2.2.1]), (5, .box [vI t.2.2.2.2.2.2.2.2.2.2.2.1, vI t.2.2.2.2.2.2.2.2.2.2.2.2.1, vI t.2.2.2.2.2.2.2.2.2.2.2.2.2.1, vI t.2.2.2.2.2.2.2.2.2.2.2.2.2.2.1, vI t.2.2.2.2.2.2.2.2.2.2.2.2.2.2.2.1]), (10000000, .root true 5 ts_u8 t.2.2.2.2.2.2.2.2.2.2.2.2.2.2.2.2)]⟩
theorem f20v5_0 : ∀ s t, unG qz82 f20e5_0 s = some t → f20e5_0 t = s := unG_ok fun t => by kernel_rfl
def f20e5_1 (t : Qz83) : St := ⟨.dead :: .box 1 0 :: .box 2 0 :: dd 2 (.box 5 0 :: v_u8 t.1 :: vB t.2.1 :: vI t.2.2.1 :: dd 58 []), [(1, .box [v_s_u8 t.2.2.2.1, v_Wr t.2.2.2.2.1, vI t.2.2.2.2.2.1, vB t.2.2.2.2.2.2.1]), (2, .box [vI t.2.2.2.2.2.2.2.1, vI t.2.2.2.2.2.2.2.2.1, vI t.2.2.2.2.2.2.2.2.2.1, vI t.2.2.2.2.2.2.2.2.2.2.1, vI t.2.2.2.2.2.2.2.2.2.2.2.1]), (5, .box [vI t.2.2.2.2.2.2.2.2.2.2.2.2.1, vI t.2.2.2.2.2.2.2.2.2.2.2.2.2.1, vI t.2.2.2.2.2.2.2.2.2.2.2.2.2.2.1, vI t.2.2.2.2.2.2.2.2.2.2.2.2.2.2.2.1, vI t.2.2.2.2.2.2.2.2.2.2.2.2.2.2.2.2])]⟩
theorem f20v5_1 : ∀ s t, unG qz83 f20e5_1 s = some t → f20e5_1 t = s := unG_ok fun t => by kernel_rfl
def f20e5r0 : (Qz82 ⊕ Qz83) → St := Sum.elim f20e5_0 f20e5_1
def f20u5r0 (s : St) : Option (Qz82 ⊕ Qz83) := ((unG qz82 f20e5_0 s).map Sum.inl).or (((unG qz83 f20e5_1) s).map Sum.inr)
theorem f20v5r0 : ∀ s t, f20u5r0 s = some t → f20e5r0 t = s := or_un f20v5_0 f20v5_1
def f20g5 : Gk T_spec_BestOf_5 := fun κ => S_spec_BestOf_5 (fun t => κ (some 0) ⟨dd 2 (.box 2 0 :: dd 2 (.box 5 0 :: .own 10000000 :: vB t.1 :: dd 59 [])), [(2, .box [vI t.2.1, vI t.2.2.1, vI t.2.2.2.1, vI t.2.2.2.2.1, vI t.2.2.2.2.2.1]), (5, .box [vI t.2.2.2.2.2.2.1, vI t.2.2.2.2.2.2.2.1, vI t.2.2.2.2.2.2.2.2.1, vI t.2.2.2.2.2.2.2.2.2.1, vI t.2.2.2.2.2.2.2.2.2.2.1]), (10000000, .root true 5 ts_u8 t.2.2.2.2.2.2.2.2.2.2.2)]⟩) (fun t => κ (some 0) ⟨dd 2 (.box 2 0 :: dd 2 (.box 5 0 :: v_u8 t.1 :: vB t.2.1 :: dd 59 [])), [(2, .box [vI t.2.2.1, vI t.2.2.2.1, vI t.2.2.2.2.1, vI t.2.2.2.2.2.1, vI t.2.2.2.2.2.2.1]), (5, .box [vI t.2.2.2.2.2.2.2.1, vI t.2.2.2.2.2.2.2.2.1, vI t.2.2.2.2.2.2.2.2.2.1, vI t.2.2.2.2.2.2.2.2.2.2.1, vI t.2.2.2.2.2.2.2.2.2.2.2])]⟩)
def f20P : Lp := lpC 5 f20u5r0 @f20g5 lpN
theorem f20C5_0 : LF f20Q f20P 20 5 Tryz.f20 0 f20e5r0 @f20g5 fun v : Qz82 => .inl v := fun R κ again v => by kernel_rfl
theorem f20C5_1 : LF f20Q f20P 20 5 Tryz.f20 0 f20e5r0 @f20g5 fun v : Qz83 => .inr v := fun R κ again v => by kernel_rfl
theorem f20C5 : LF f20Q f20P 20 5 Tryz.f20 0 f20e5r0 @f20g5 fun t => t := (LC.sum f20C5_0 f20C5_1)
theorem f20k5 : LK f20Q f20P 20 Tryz.f20 0 := lkN (u := f20u5r0) f20v5r0 f20C5
theorem ev20 : EV f20Q f20P 20 Tryz.f20 sg20 qz75 qz86 F_spec_BestOf := fun x => by kernel_rfl
def q20 : QF := ⟨20, F_spec_BestOf, okN (n := 1) Tryz.func20 ⟨f20k5, trivial⟩ ev20⟩
abbrev T_laws_toByteS_3 : Type := Qz87
def S_laws_toByteS_3 (k0 : List E_u8 → Option R) (again : T_laws_toByteS_3 → Option R) (t3 : T_laws_toByteS_3) : Option R :=
 bif (decide (t3.2.1 < ((List.length t3.1 : Nat) : Int))) then if (0 : Int) ≤ t3.2.1 then if t3.2.1 < ((List.length t3.1 : Nat) : Int) then if (0 : Int) ≤ t3.2.1 then if t3.2.1 < ((List.length t3.2.2 : Nat) : Int) then again (t3.1, (Go.IntKind.wrap .i64 (t3.2.1 + (1 : Int))), (List.set t3.2.2 (Int.toNat t3.2.1) (rd_u8 t3.1 t3.2.1))) else none else none else none else none else k0 t3.2.2
def L_laws_toByteS_3 k0 := iter (@S_laws_toByteS_3 R k0) FUEL
def F_laws_toByteS (x : List E_u8) : Option (List E_u8) :=
 if (0 : Int) ≤ ((List.length x : Nat) : Int) then if ((List.length x : Nat) : Int) ≤ ((List.length x : Nat) : Int) then if ((List.length x : Nat) : Int) * ((1 : Nat) : Int) ≤ 140737488351232 then L_laws_toByteS_3 (fun x1 => some x1) (x, (0 : Int), (List.replicate (Int.toNat ((List.length x : Nat) : Int)) z_u8)) else none else none else none
def f27Q : List QF := []
def f27e3_0 (t : Qz87) : St := ⟨v_u8 t.1 :: dd 2 (.own 10000000 :: vI t.2.1 :: dd 17 []), [(10000000, .root true 5 ts_u8 t.2.2)]⟩
def f27g3 : Gk T_laws_toByteS_3 := fun κ => S_laws_toByteS_3 (fun t => κ (some 0) ⟨dd 3 (.own 10000000 :: dd 18 []), [(10000000, .root true 5 ts_u8 t)]⟩)
def f27P : Lp := lpC 3 (unG qz87 f27e3_0) @f27g3 lpN
theorem f27C3 : LF f27Q f27P 27 3 Tryz.f27 0 f27e3_0 @f27g3 fun t => t := fun R κ again t => by kernel_rfl
theorem f27k3 : LK f27Q f27P 27 Tryz.f27 0 := lkN (u := (unG qz87 f27e3_0)) (unG_ok fun t => by kernel_rfl) f27C3
theorem ev27 : EV f27Q f27P 27 Tryz.f27 sg27 [(.sl 5 ts_u8)] [(.sl 5 ts_u8)] F_laws_toByteS := fun x => by kernel_rfl
def q27 : QF := ⟨27, F_laws_toByteS, okN (n := 1) Tryz.func27 ⟨f27k3, trivial⟩ ev27⟩
abbrev T_laws_toByteSS_3 : Type := Qz88
def S_laws_toByteSS_3 (k0 : List E_s_u8 → Option R) (again : T_laws_toByteSS_3 → Option R) (t3 : T_laws_toByteSS_3) : Option R :=
 bif (decide (t3.2.1 < ((List.length t3.1 : Nat) : Int))) then if (0 : Int) ≤ t3.2.1 then if t3.2.1 < ((List.length t3.1 : Nat) : Int) then Option.bind (F_laws_toByteS (rd_s_u8 t3.1 t3.2.1)) fun r1 => if (0 : Int) ≤ t3.2.1 then if t3.2.1 < ((List.length t3.2.2 : Nat) : Int) then again (t3.1, (Go.IntKind.wrap .i64 (t3.2.1 + (1 : Int))), (List.set t3.2.2 (Int.toNat t3.2.1) r1)) else none else none else none else none else k0 t3.2.2
def L_laws_toByteSS_3 k0 := iter (@S_laws_toByteSS_3 R k0) FUEL
def F_laws_toByteSS (x : List E_s_u8) : Option (List E_s_u8) :=
 if (0 : Int) ≤ ((List.length x : Nat) : Int) then if ((List.length x : Nat) : Int) ≤ ((List.length x : Nat) : Int) then if ((List.length x : Nat) : Int) * ((24 : Nat) : Int) ≤ 140737488351232 then L_laws_toByteSS_3 (fun x2 => some x2) (x, (0 : Int), (List.replicate (Int.toNat ((List.length x : Nat) : Int)) z_s_u8)) else none else none else none
def f74Q : List QF := [q27]
def f74e3_0 (t : Qz88) : St := ⟨v_s_u8 t.1 :: dd 2 (.own 10000000 :: vI t.2.1 :: dd 18 []), [(10000000, .deep false 0 32 ts_s_u8 t.2.2)]⟩
def f74g3 : Gk T_laws_toByteSS_3 := fun κ => S_laws_toByteSS_3 (fun t => κ (some 0) ⟨dd 3 (.own 10000000 :: dd 19 []), [(10000000, .deep false 0 32 ts_s_u8 t)]⟩)
def f74P : Lp := lpC 3 (unG qz88 f74e3_0) @f74g3 lpN
theorem f74C3 : LF f74Q f74P 74 3 Tryz.f74 0 f74e3_0 @f74g3 fun t => t := fun R κ again t => by kernel_rfl
theorem f74k3 : LK f74Q f74P 74 Tryz.f74 0 := lkN (u := (unG qz88 f74e3_0)) (unG_ok fun t => by kernel_rfl) f74C3
theorem ev74 : EV f74Q f74P 74 Tryz.f74 sg74 [(.sl 32 ts_s_u8)] [(.sl 32 ts_s_u8)] F_laws_toByteSS := fun x => by kernel_rfl
def q74 : QF := ⟨74, F_laws_toByteSS, okN (n := 1) Tryz.func74 ⟨f74k3, trivial⟩ ev74⟩
def F_laws_toWr (x : Qz3) : Option Qz3 :=
 Option.bind (F_laws_toByteS x.2) fun r1 => some (x.1, r1)
theorem ev155 : EV [q27] lpN 155 Tryz.f155 sg155 qz3 qz3 F_laws_toWr := fun x => by kernel_rfl
def q155 : QF := ⟨155, F_laws_toWr, okN (n := 0) Tryz.func155 trivial ev155⟩
abbrev T_laws_toWrS_3 : Type := Qz89
def S_laws_toWrS_3 (k0 : List E_Wr → Option R) (again : T_laws_toWrS_3 → Option R) (t3 : T_laws_toWrS_3) : Option R :=
 bif (decide (t3.2.1 < ((List.length t3.1 : Nat) : Int))) then if (0 : Int) ≤ t3.2.1 then if t3.2.1 < ((List.length t3.1 : Nat) : Int) then Option.bind (F_laws_toWr ((rd_LWr t3.1 t3.2.1).1, (rd_LWr t3.1 t3.2.1).2)) fun r1 => if (0 : Int) ≤ t3.2.1 then if t3.2.1 < ((List.length t3.2.2 : Nat) : Int) then again (t3.1, (Go.IntKind.wrap .i64 (t3.2.1 + (1 : Int))), (List.set t3.2.2 (Int.toNat t3.2.1) (r1.1, r1.2))) else none else none else none else none else k0 t3.2.2
def L_laws_toWrS_3 k0 := iter (@S_laws_toWrS_3 R k0) FUEL
def F_laws_toWrS (x : List E_LWr) : Option (List E_Wr) :=
 if (0 : Int) ≤ ((List.length x : Nat) : Int) then if ((List.length x : Nat) : Int) ≤ ((List.length x : Nat) : Int) then if ((List.length x : Nat) : Int) * ((32 : Nat) : Int) ≤ 140737488351232 then L_laws_toWrS_3 (fun x2 => some x2) (x, (0 : Int), (List.replicate (Int.toNat ((List.length x : Nat) : Int)) z_Wr)) else none else none else none
def f75Q : List QF := [q155]
def f75e3_0 (t : Qz89) : St := ⟨v_LWr t.1 :: dd 2 (.own 10000000 :: vI t.2.1 :: dd 18 []), [(10000000, .deep false 0 186 ts_Wr t.2.2)]⟩
def f75g3 : Gk T_laws_toWrS_3 := fun κ => S_laws_toWrS_3 (fun t => κ (some 0) ⟨dd 3 (.own 10000000 :: dd 19 []), [(10000000, .deep false 0 186 ts_Wr t)]⟩)
def f75P : Lp := lpC 3 (unG qz89 f75e3_0) @f75g3 lpN
theorem f75C3 : LF f75Q f75P 75 3 Tryz.f75 0 f75e3_0 @f75g3 fun t => t := fun R κ again t => by kernel_rfl
theorem f75k3 : LK f75Q f75P 75 Tryz.f75 0 := lkN (u := (unG qz89 f75e3_0)) (unG_ok fun t => by kernel_rfl) f75C3
theorem ev75 : EV f75Q f75P 75 Tryz.f75 sg75 [(.sl 181 ts_LWr)] [(.sl 186 ts_Wr)] F_laws_toWrS := fun x => by kernel_rfl
def q75 : QF := ⟨75, F_laws_toWrS, okN (n := 1) Tryz.func75 ⟨f75k3, trivial⟩ ev75⟩
def F_laws_toDev (x : Qz90) : Option Qz75 :=
 Option.bind (F_laws_toByteSS x.1) fun r1 => Option.bind (F_laws_toWrS x.2.1) fun r2 => some (r1, r2, x.2.2.1, x.2.2.2)
theorem ev21 : EV [q74, q75] lpN 21 Tryz.f21 sg21 qz90 qz75 F_laws_toDev := fun x => by kernel_rfl
def q21 : QF := ⟨21, F_laws_toDev, okN (n := 0) Tryz.func21 trivial ev21⟩
def F_impl_within (x : Qz13) : Option Bool :=
 Option.bind (bif (decide (x.1 ≥ x.2.1)) then some (decide (x.1 ≤ x.2.2)) else some false) fun u1 => some u1
theorem ev134 : EV [] lpN 134 Tryz.f134 sg134 qz13 [.bool] F_impl_within := fun x => by kernel_rfl
def q134 : QF := ⟨134, F_impl_within, okN (n := 0) Tryz.func134 trivial ev134⟩
def F_impl_KeyOk (x : Qz23) : Option Bool :=
 Option.bind (F_impl_within (x.1, (0 : Int), (15 : Int))) fun r1 => Option.bind (bif (!r1) then some true else Option.bind (F_impl_within (x.2.1, (1 : Int), (60 : Int))) fun r3 => some (!r3)) fun u2 => Option.bind (bif u2 then some true else Option.bind (F_impl_within (x.2.2.1, (0 : Int), (2 : Int))) fun r5 => some (!r5)) fun u4 => bif u4 then some false else bif (x.2.2.1 != (1 : Int)) then Option.bind (bif (x.2.2.2.1 == (0 : Int)) then some (x.2.2.2.2 == (0 : Int)) else some false) fun u6 => some u6 else Option.bind (F_impl_within (x.2.2.2.1, (0 : Int), (23 : Int))) fun r7 => Option.bind (bif r7 then Option.bind (F_impl_within (x.2.2.2.2, (0 : Int), (999 : Int))) fun r9 => some r9 else some false) fun u8 => some u8
theorem ev138 : EV [q134] lpN 138 Tryz.f138 sg138 qz23 [.bool] F_impl_KeyOk := fun x => by kernel_rfl
def q138 : QF := ⟨138, F_impl_KeyOk, okN (n := 0) Tryz.func138 trivial ev138⟩
def F_impl_LessKey (x : Qz15) : Option Bool :=
 Option.bind (bif (decide (x.1 < x.2.2.2.2.2.1)) then some true else Option.bind (bif (x.1 == x.2.2.2.2.2.1) then some (decide (x.2.1 < x.2.2.2.2.2.2.1)) else some false) fun u2 => some u2) fun u1 => some u1
theorem ev279 : EV [] lpN 279 Tryz.f279 sg279 qz15 [.bool] F_impl_LessKey := fun x => by kernel_rfl
def q279 : QF := ⟨279, F_impl_LessKey, okN (n := 0) Tryz.func279 trivial ev279⟩
abbrev T_impl_SetOk_2 : Type := Qz91
def S_impl_SetOk_2 (k0 : Qz25 → Option R) (k1 : List E_Key → Option R) (again : T_impl_SetOk_2 → Option R) (t2 : T_impl_SetOk_2) : Option R :=
 bif (decide (t2.2.2.2 < t2.2.2.1)) then if (0 : Int) ≤ t2.2.2.2 then if t2.2.2.2 < ((List.length t2.2.1 : Nat) : Int) then Option.bind (F_impl_KeyOk ((rd_Key t2.2.1 t2.2.2.2).1, (rd_Key t2.2.1 t2.2.2.2).2.1, (rd_Key t2.2.1 t2.2.2.2).2.2.1, (rd_Key t2.2.1 t2.2.2.2).2.2.2.1, (rd_Key t2.2.1 t2.2.2.2).2.2.2.2)) fun r1 => Option.bind (bif (!r1) then some true else Option.bind (bif (decide (t2.2.2.2 > (0 : Int))) then if (0 : Int) ≤ (Go.IntKind.wrap .i64 (t2.2.2.2 - (1 : Int))) then if (Go.IntKind.wrap .i64 (t2.2.2.2 - (1 : Int))) < ((List.length t2.1 : Nat) : Int) then Option.bind (F_impl_LessKey ((rd_Key t2.1 (Go.IntKind.wrap .i64 (t2.2.2.2 - (1 : Int)))).1, (rd_Key t2.1 (Go.IntKind.wrap .i64 (t2.2.2.2 - (1 : Int)))).2.1, (rd_Key t2.1 (Go.IntKind.wrap .i64 (t2.2.2.2 - (1 : Int)))).2.2.1, (rd_Key t2.1 (Go.IntKind.wrap .i64 (t2.2.2.2 - (1 : Int)))).2.2.2.1, (rd_Key t2.1 (Go.IntKind.wrap .i64 (t2.2.2.2 - (1 : Int)))).2.2.2.2, (rd_Key t2.2.1 t2.2.2.2).1, (rd_Key t2.2.1 t2.2.2.2).2.1, (rd_Key t2.2.1 t2.2.2.2).2.2.1, (rd_Key t2.2.1 t2.2.2.2).2.2.2.1, (rd_Key t2.2.1 t2.2.2.2).2.2.2.2)) fun r4 => some (!r4) else none else none else some false) fun u3 => some u3) fun u2 => bif u2 then k0 (t2.1, false) else again (t2.1, t2.2.1, t2.2.2.1, (Go.IntKind.wrap .i64 (t2.2.2.2 + (1 : Int)))) else none else none else k1 t2.1
def L_impl_SetOk_2 k0 k1 := iter (@S_impl_SetOk_2 R k0 k1) FUEL
def F_impl_SetOk (x : List E_Key) : Option Bool :=
 L_impl_SetOk_2 (fun x5 => some x5.2) (fun x6 => some (decide (((List.length x6 : Nat) : Int) ≤ (60 : Int)))) (x, x, ((List.length x : Nat) : Int), (0 : Int))
def f246Q : List QF := [q138, q279]
def f246e2_0 (t : Qz91) : St := ⟨v_Key t.1 :: dd 4 (v_Key t.2.1 :: vI t.2.2.1 :: vI t.2.2.2 :: dd 25 []), []⟩
def f246g2 : Gk T_impl_SetOk_2 := fun κ => S_impl_SetOk_2 (fun t => κ none ⟨v_Key t.1 :: .dead :: vB t.2 :: dd 30 [], []⟩) (fun t => κ (some 0) ⟨v_Key t :: dd 32 [], []⟩)
def f246P : Lp := lpC 2 (unG qz91 f246e2_0) @f246g2 lpN
theorem f246C2 : LF f246Q f246P 246 2 Tryz.f246 0 f246e2_0 @f246g2 fun t => t := fun R κ again t => by kernel_rfl
theorem f246k2 : LK f246Q f246P 246 Tryz.f246 0 := lkN (u := (unG qz91 f246e2_0)) (unG_ok fun t => by kernel_rfl) f246C2
theorem ev246 : EV f246Q f246P 246 Tryz.f246 sg246 [(.sl 106 ts_Key)] [.bool] F_impl_SetOk := fun x => by kernel_rfl
def q246 : QF := ⟨246, F_impl_SetOk, okN (n := 1) Tryz.func246 ⟨f246k2, trivial⟩ ev246⟩
abbrev T_impl_NodeOk_3 : Type := Qz92
def S_impl_NodeOk_3 (k0 : Qz93 → Option R) (k1 : Qz27 → Option R) (again : T_impl_NodeOk_3 → Option R) (t3 : T_impl_NodeOk_3) : Option R :=
 bif (decide (t3.2.2.2.1 < t3.2.2.1)) then if (0 : Int) ≤ t3.2.2.2.1 then if t3.2.2.2.1 < ((List.length t3.2.1 : Nat) : Int) then Option.bind (F_impl_SetOk (rd_s_Key t3.2.1 t3.2.2.2.1)) fun r1 => Option.bind (bif (!r1) then some true else some (((List.length (rd_s_Key t3.2.1 t3.2.2.2.1) : Nat) : Int) == (0 : Int))) fun u2 => bif u2 then k0 (false, t3.1, t3.2.2.2.2) else again ((Go.IntKind.wrap .i64 (t3.1 + ((List.length (rd_s_Key t3.2.1 t3.2.2.2.1) : Nat) : Int))), t3.2.1, t3.2.2.1, (Go.IntKind.wrap .i64 (t3.2.2.2.1 + (1 : Int))), t3.2.2.2.2) else none else none else k1 (t3.1, t3.2.2.2.2)
def L_impl_NodeOk_3 k0 k1 := iter (@S_impl_NodeOk_3 R k0 k1) FUEL
def F_impl_NodeOk (x : List E_s_Key) : Option Bool :=
 L_impl_NodeOk_3 (fun x3 => some x3.1) (fun x4 => Option.bind (bif (decide (((List.length x4.2 : Nat) : Int) ≤ (3 : Int))) then some (decide (x4.1 ≤ (8 : Int))) else some false) fun u5 => some u5) ((0 : Int), x, ((List.length x : Nat) : Int), (0 : Int), x)
def f204Q : List QF := [q246]
def f204e3_0 (t : Qz92) : St := ⟨.dead :: .box 1 0 :: .dead :: vI t.1 :: dd 3 (v_s_Key t.2.1 :: vI t.2.2.1 :: vI t.2.2.2.1 :: dd 24 []), [(1, .box [v_s_Key t.2.2.2.2])]⟩
def f204g3 : Gk T_impl_NodeOk_3 := fun κ => S_impl_NodeOk_3 (fun t => κ none ⟨.dead :: .box 1 0 :: vB t.1 :: vI t.2.1 :: dd 30 [], [(1, .box [v_s_Key t.2.2])]⟩) (fun t => κ (some 0) ⟨.dead :: .box 1 0 :: .dead :: vI t.1 :: dd 30 [], [(1, .box [v_s_Key t.2])]⟩)
def f204P : Lp := lpC 3 (unG qz92 f204e3_0) @f204g3 lpN
theorem f204C3 : LF f204Q f204P 204 3 Tryz.f204 0 f204e3_0 @f204g3 fun t => t := fun R κ again t => by kernel_rfl
theorem f204k3 : LK f204Q f204P 204 Tryz.f204 0 := lkN (u := (unG qz92 f204e3_0)) (unG_ok fun t => by kernel_rfl) f204C3
theorem ev204 : EV f204Q f204P 204 Tryz.f204 sg204 [(.sl 100 ts_s_Key)] [.bool] F_impl_NodeOk := fun x => by kernel_rfl
def q204 : QF := ⟨204, F_impl_NodeOk, okN (n := 1) Tryz.func204 ⟨f204k3, trivial⟩ ev204⟩
def F_impl_SpotOf (x : Qz6) : Option Int :=
 some (Go.IntKind.wrap .i64 ((Go.IntKind.wrap .i64 ((64 : Int) * x.1)) + x.2))
theorem ev247 : EV [] lpN 247 Tryz.f247 sg247 qz6 [(.int .i64)] F_impl_SpotOf := fun x => by kernel_rfl
def q247 : QF := ⟨247, F_impl_SpotOf, okN (n := 0) Tryz.func247 trivial ev247⟩
abbrev T_impl_inBounds_5 : Type := Qz94
def S_impl_inBounds_5 (k0 : Qz95 → Option R) (k1 : Qz96 → Option R) (again : T_impl_inBounds_5 → Option R) (t5 : T_impl_inBounds_5) : Option R :=
 bif (decide (t5.2.2.2.2.2.2.1 < t5.2.2.2.2.2.1)) then if (0 : Int) ≤ t5.2.2.2.2.2.2.1 then if t5.2.2.2.2.2.2.1 < ((List.length t5.2.2.2.2.1 : Nat) : Int) then Option.bind (F_impl_SpotOf ((rd_Key t5.2.2.2.2.1 t5.2.2.2.2.2.2.1).1, (rd_Key t5.2.2.2.2.1 t5.2.2.2.2.2.2.1).2.1)) fun r1 => if (0 : Int) ≤ t5.1 then if t5.1 < ((List.length t5.2.2.2.2.2.2.2.1 : Nat) : Int) then Option.bind (bif (decide (r1 < (rd_i64 t5.2.2.2.2.2.2.2.1 t5.1))) then some true else Option.bind (bif (decide ((Go.IntKind.wrap .i64 (t5.1 + (1 : Int))) < ((List.length t5.2.2.2.2.2.2.2.1 : Nat) : Int))) then if (0 : Int) ≤ (Go.IntKind.wrap .i64 (t5.1 + (1 : Int))) then if (Go.IntKind.wrap .i64 (t5.1 + (1 : Int))) < ((List.length t5.2.2.2.2.2.2.2.1 : Nat) : Int) then some (decide (r1 ≥ (rd_i64 t5.2.2.2.2.2.2.2.1 (Go.IntKind.wrap .i64 (t5.1 + (1 : Int)))))) else none else none else some false) fun u3 => some u3) fun u2 => bif u2 then k0 (t5.1, false, t5.2.1, t5.2.2.1, t5.2.2.2.1, t5.2.2.2.2.2.2.2.1, t5.2.2.2.2.2.2.2.2) else again (t5.1, t5.2.1, t5.2.2.1, t5.2.2.2.1, t5.2.2.2.2.1, t5.2.2.2.2.2.1, (Go.IntKind.wrap .i64 (t5.2.2.2.2.2.2.1 + (1 : Int))), t5.2.2.2.2.2.2.2.1, t5.2.2.2.2.2.2.2.2) else none else none else none else none else k1 (t5.1, t5.2.1, t5.2.2.1, t5.2.2.2.1, t5.2.2.2.2.2.2.2.1, t5.2.2.2.2.2.2.2.2)
def L_impl_inBounds_5 k0 k1 := iter (@S_impl_inBounds_5 R k0 k1) FUEL
abbrev T_impl_inBounds_2 : Type := Qz96
def S_impl_inBounds_2 (k0 : Bool → Option R) (k1 : Unit → Option R) (again : T_impl_inBounds_2 → Option R) (t2 : T_impl_inBounds_2) : Option R :=
 bif (decide (t2.2.2.2.1 < t2.2.2.1)) then if (0 : Int) ≤ t2.2.2.2.1 then if t2.2.2.2.1 < ((List.length t2.2.1 : Nat) : Int) then L_impl_inBounds_5 (fun x4 => k0 x4.2.1) (fun x5 => again (x5.1, x5.2.1, x5.2.2.1, (Go.IntKind.wrap .i64 (x5.2.2.2.1 + (1 : Int))), x5.2.2.2.2.1, x5.2.2.2.2.2)) (t2.1, t2.2.1, t2.2.2.1, t2.2.2.2.1, (rd_s_Key t2.2.1 t2.2.2.2.1), ((List.length (rd_s_Key t2.2.1 t2.2.2.2.1) : Nat) : Int), (0 : Int), t2.2.2.2.2.1, t2.2.2.2.2.2) else none else none else k1 ()
def L_impl_inBounds_2 k0 k1 := iter (@S_impl_inBounds_2 R k0 k1) FUEL
def F_impl_inBounds (x : Qz32) : Option Bool :=
 if (0 : Int) ≤ x.2.2 then if x.2.2 < ((List.length x.2.1 : Nat) : Int) then L_impl_inBounds_2 (fun x6 => some x6) (fun x7 => some true) (x.2.2, (rd_Node x.2.1 x.2.2), ((List.length (rd_Node x.2.1 x.2.2) : Nat) : Int), (0 : Int), x.1, x.2.1) else none else none
def f205Q : List QF := [q247]
def f205e5_0 (t : Qz94) : St := ⟨.dead :: vI t.1 :: .box 2 0 :: dd 12 (v_s_Key t.2.1 :: vI t.2.2.1 :: vI t.2.2.2.1 :: dd 3 (v_Key t.2.2.2.2.1 :: vI t.2.2.2.2.2.1 :: vI t.2.2.2.2.2.2.1 :: dd 35 [])), [(2, .box [v_i64 t.2.2.2.2.2.2.2.1, v_Node t.2.2.2.2.2.2.2.2])]⟩
def f205g5 : Gk T_impl_inBounds_5 := fun κ => S_impl_inBounds_5 (fun t => κ none ⟨.dead :: vI t.1 :: .box 2 0 :: .dead :: vB t.2.1 :: dd 10 (v_s_Key t.2.2.1 :: vI t.2.2.2.1 :: vI t.2.2.2.2.1 :: dd 41 []), [(2, .box [v_i64 t.2.2.2.2.2.1, v_Node t.2.2.2.2.2.2])]⟩) (fun t => κ (some 2) ⟨.dead :: vI t.1 :: .box 2 0 :: dd 12 (v_s_Key t.2.1 :: vI t.2.2.1 :: vI t.2.2.2.1 :: dd 41 []), [(2, .box [v_i64 t.2.2.2.2.1, v_Node t.2.2.2.2.2])]⟩)
def f205e2_0 (t : Qz96) : St := ⟨.dead :: vI t.1 :: .box 2 0 :: dd 12 (v_s_Key t.2.1 :: vI t.2.2.1 :: vI t.2.2.2.1 :: dd 41 []), [(2, .box [v_i64 t.2.2.2.2.1, v_Node t.2.2.2.2.2])]⟩
def f205g2 : Gk T_impl_inBounds_2 := fun κ => S_impl_inBounds_2 (fun t => κ none ⟨dd 4 (vB t :: dd 54 []), []⟩) (fun t => κ (some 0) ⟨dd 59 [], []⟩)
def f205P : Lp := lpC 2 (unG qz96 f205e2_0) @f205g2 (lpC 5 (unG qz94 f205e5_0) @f205g5 lpN)
theorem f205C5 : LF f205Q f205P 205 5 Tryz.f205 1 f205e5_0 @f205g5 fun t => t := fun R κ again t => by kernel_rfl
theorem f205k5 : LK f205Q f205P 205 Tryz.f205 1 := lkN (u := (unG qz94 f205e5_0)) (unG_ok fun t => by kernel_rfl) f205C5
theorem f205C2 : LF f205Q f205P 205 2 Tryz.f205 0 f205e2_0 @f205g2 fun t => t := fun R κ again t => by kernel_rfl
theorem f205k2 : LK f205Q f205P 205 Tryz.f205 0 := lkN (u := (unG qz96 f205e2_0)) (unG_ok fun t => by kernel_rfl) f205C2
theorem ev205 : EV f205Q f205P 205 Tryz.f205 sg205 qz32 [.bool] F_impl_inBounds := fun x => by kernel_rfl
def q205 : QF := ⟨205, F_impl_inBounds, okN (n := 2) Tryz.func205 ⟨f205k2, f205k5, trivial⟩ ev205⟩
def F_impl_copyKeys (x : List E_Key) : Option (List E_Key) :=
 if (List.length ([] : List E_Key) + List.length x) * 40 < 140737488355328 then some (([] : List E_Key) ++ x) else none
theorem ev280 : EV [] lpN 280 Tryz.f280 sg280 [(.sl 106 ts_Key)] [(.sl 106 ts_Key)] F_impl_copyKeys := fun x => by kernel_rfl
def q280 : QF := ⟨280, F_impl_copyKeys, okN (n := 0) Tryz.func280 trivial ev280⟩
def F_impl_SameSpot (x : Qz15) : Option Bool :=
 Option.bind (bif (x.1 == x.2.2.2.2.2.1) then some (x.2.1 == x.2.2.2.2.2.2.1) else some false) fun u1 => some u1
theorem ev302 : EV [] lpN 302 Tryz.f302 sg302 qz15 [.bool] F_impl_SameSpot := fun x => by kernel_rfl
def q302 : QF := ⟨302, F_impl_SameSpot, okN (n := 0) Tryz.func302 trivial ev302⟩
abbrev T_impl_SetPut_4 : Type := Qz97
def S_impl_SetPut_4 (k0 : Qz17 → Option R) (again : T_impl_SetPut_4 → Option R) (t4 : T_impl_SetPut_4) : Option R :=
 bif (decide (t4.2.2.2.1 < t4.2.2.1)) then if (0 : Int) ≤ t4.2.2.2.1 then if t4.2.2.2.1 < ((List.length t4.2.1 : Nat) : Int) then Option.bind (bif (!t4.1) then Option.bind (F_impl_LessKey ((rd_Key t4.2.1 t4.2.2.2.1).1, (rd_Key t4.2.1 t4.2.2.2.1).2.1, (rd_Key t4.2.1 t4.2.2.2.1).2.2.1, (rd_Key t4.2.1 t4.2.2.2.1).2.2.2.1, (rd_Key t4.2.1 t4.2.2.2.1).2.2.2.2, t4.2.2.2.2.1, t4.2.2.2.2.2.1, t4.2.2.2.2.2.2.1, t4.2.2.2.2.2.2.2.1, t4.2.2.2.2.2.2.2.2.1)) fun r2 => some (!r2) else some false) fun u1 => bif u1 then if (List.length t4.2.2.2.2.2.2.2.2.2 + List.length ([(t4.2.2.2.2.1, t4.2.2.2.2.2.1, t4.2.2.2.2.2.2.1, t4.2.2.2.2.2.2.2.1, t4.2.2.2.2.2.2.2.2.1)] : List E_Key)) * 40 < 140737488355328 then Option.bind (F_impl_SameSpot ((rd_Key t4.2.1 t4.2.2.2.1).1, (rd_Key t4.2.1 t4.2.2.2.1).2.1, (rd_Key t4.2.1 t4.2.2.2.1).2.2.1, (rd_Key t4.2.1 t4.2.2.2.1).2.2.2.1, (rd_Key t4.2.1 t4.2.2.2.1).2.2.2.2, t4.2.2.2.2.1, t4.2.2.2.2.2.1, t4.2.2.2.2.2.2.1, t4.2.2.2.2.2.2.2.1, t4.2.2.2.2.2.2.2.2.1)) fun r3 => bif (!r3) then if (List.length (t4.2.2.2.2.2.2.2.2.2 ++ ([(t4.2.2.2.2.1, t4.2.2.2.2.2.1, t4.2.2.2.2.2.2.1, t4.2.2.2.2.2.2.2.1, t4.2.2.2.2.2.2.2.2.1)] : List E_Key)) + List.length ([((rd_Key t4.2.1 t4.2.2.2.1).1, (rd_Key t4.2.1 t4.2.2.2.1).2.1, (rd_Key t4.2.1 t4.2.2.2.1).2.2.1, (rd_Key t4.2.1 t4.2.2.2.1).2.2.2.1, (rd_Key t4.2.1 t4.2.2.2.1).2.2.2.2)] : List E_Key)) * 40 < 140737488355328 then again (true, t4.2.1, t4.2.2.1, (Go.IntKind.wrap .i64 (t4.2.2.2.1 + (1 : Int))), t4.2.2.2.2.1, t4.2.2.2.2.2.1, t4.2.2.2.2.2.2.1, t4.2.2.2.2.2.2.2.1, t4.2.2.2.2.2.2.2.2.1, ((t4.2.2.2.2.2.2.2.2.2 ++ ([(t4.2.2.2.2.1, t4.2.2.2.2.2.1, t4.2.2.2.2.2.2.1, t4.2.2.2.2.2.2.2.1, t4.2.2.2.2.2.2.2.2.1)] : List E_Key)) ++ ([((rd_Key t4.2.1 t4.2.2.2.1).1, (rd_Key t4.2.1 t4.2.2.2.1).2.1, (rd_Key t4.2.1 t4.2.2.2.1).2.2.1, (rd_Key t4.2.1 t4.2.2.2.1).2.2.2.1, (rd_Key t4.2.1 t4.2.2.2.1).2.2.2.2)] : List E_Key))) else none else again (true, t4.2.1, t4.2.2.1, (Go.IntKind.wrap .i64 (t4.2.2.2.1 + (1 : Int))), t4.2.2.2.2.1, t4.2.2.2.2.2.1, t4.2.2.2.2.2.2.1, t4.2.2.2.2.2.2.2.1, t4.2.2.2.2.2.2.2.2.1, (t4.2.2.2.2.2.2.2.2.2 ++ ([(t4.2.2.2.2.1, t4.2.2.2.2.2.1, t4.2.2.2.2.2.2.1, t4.2.2.2.2.2.2.2.1, t4.2.2.2.2.2.2.2.2.1)] : List E_Key))) else none else Option.bind (F_impl_SameSpot ((rd_Key t4.2.1 t4.2.2.2.1).1, (rd_Key t4.2.1 t4.2.2.2.1).2.1, (rd_Key t4.2.1 t4.2.2.2.1).2.2.1, (rd_Key t4.2.1 t4.2.2.2.1).2.2.2.1, (rd_Key t4.2.1 t4.2.2.2.1).2.2.2.2, t4.2.2.2.2.1, t4.2.2.2.2.2.1, t4.2.2.2.2.2.2.1, t4.2.2.2.2.2.2.2.1, t4.2.2.2.2.2.2.2.2.1)) fun r4 => bif (!r4) then if (List.length t4.2.2.2.2.2.2.2.2.2 + List.length ([((rd_Key t4.2.1 t4.2.2.2.1).1, (rd_Key t4.2.1 t4.2.2.2.1).2.1, (rd_Key t4.2.1 t4.2.2.2.1).2.2.1, (rd_Key t4.2.1 t4.2.2.2.1).2.2.2.1, (rd_Key t4.2.1 t4.2.2.2.1).2.2.2.2)] : List E_Key)) * 40 < 140737488355328 then again (t4.1, t4.2.1, t4.2.2.1, (Go.IntKind.wrap .i64 (t4.2.2.2.1 + (1 : Int))), t4.2.2.2.2.1, t4.2.2.2.2.2.1, t4.2.2.2.2.2.2.1, t4.2.2.2.2.2.2.2.1, t4.2.2.2.2.2.2.2.2.1, (t4.2.2.2.2.2.2.2.2.2 ++ ([((rd_Key t4.2.1 t4.2.2.2.1).1, (rd_Key t4.2.1 t4.2.2.2.1).2.1, (rd_Key t4.2.1 t4.2.2.2.1).2.2.1, (rd_Key t4.2.1 t4.2.2.2.1).2.2.2.1, (rd_Key t4.2.1 t4.2.2.2.1).2.2.2.2)] : List E_Key))) else none else again (t4.1, t4.2.1, t4.2.2.1, (Go.IntKind.wrap .i64 (t4.2.2.2.1 + (1 : Int))), t4.2.2.2.2.1, t4.2.2.2.2.2.1, t4.2.2.2.2.2.2.1, t4.2.2.2.2.2.2.2.1, t4.2.2.2.2.2.2.2.2.1, t4.2.2.2.2.2.2.2.2.2) else none else none else k0 (t4.1, t4.2.2.2.2.1, t4.2.2.2.2.2.1, t4.2.2.2.2.2.2.1, t4.2.2.2.2.2.2.2.1, t4.2.2.2.2.2.2.2.2.1, t4.2.2.2.2.2.2.2.2.2)
def L_impl_SetPut_4 k0 := iter (@S_impl_SetPut_4 R k0) FUEL
def F_impl_SetPut (x : Qz18) : Option (List E_Key) :=
 L_impl_SetPut_4 (fun x5 => bif (!x5.1) then if (List.length x5.2.2.2.2.2.2 + List.length ([(x5.2.1, x5.2.2.1, x5.2.2.2.1, x5.2.2.2.2.1, x5.2.2.2.2.2.1)] : List E_Key)) * 40 < 140737488355328 then some (x5.2.2.2.2.2.2 ++ ([(x5.2.1, x5.2.2.1, x5.2.2.2.1, x5.2.2.2.2.1, x5.2.2.2.2.2.1)] : List E_Key)) else none else some x5.2.2.2.2.2.2) (false, x.1, ((List.length x.1 : Nat) : Int), (0 : Int), x.2.1, x.2.2.1, x.2.2.2.1, x.2.2.2.2.1, x.2.2.2.2.2, ([] : List E_Key))
def f281Q : List QF := [q279, q302]
def f281e4_0 (t : Qz97) : St := ⟨dd 3 (.box 3 0 :: .dead :: .own 10000000 :: vB t.1 :: dd 3 (v_Key t.2.1 :: vI t.2.2.1 :: vI t.2.2.2.1 :: dd 31 [])), [(3, .box [vI t.2.2.2.2.1, vI t.2.2.2.2.2.1, vI t.2.2.2.2.2.2.1, vI t.2.2.2.2.2.2.2.1, vI t.2.2.2.2.2.2.2.2.1]), (10000000, .root true 106 ts_Key t.2.2.2.2.2.2.2.2.2)]⟩
def f281g4 : Gk T_impl_SetPut_4 := fun κ => S_impl_SetPut_4 (fun t => κ (some 0) ⟨dd 3 (.box 3 0 :: .dead :: .own 10000000 :: vB t.1 :: dd 37 []), [(3, .box [vI t.2.1, vI t.2.2.1, vI t.2.2.2.1, vI t.2.2.2.2.1, vI t.2.2.2.2.2.1]), (10000000, .root true 106 ts_Key t.2.2.2.2.2.2)]⟩)
def f281P : Lp := lpC 4 (unG qz97 f281e4_0) @f281g4 lpN
theorem f281C4 : LF f281Q f281P 281 4 Tryz.f281 0 f281e4_0 @f281g4 fun t => t := fun R κ again t => by kernel_rfl
theorem f281k4 : LK f281Q f281P 281 Tryz.f281 0 := lkN (u := (unG qz97 f281e4_0)) (unG_ok fun t => by kernel_rfl) f281C4
theorem ev281 : EV f281Q f281P 281 Tryz.f281 sg281 qz18 [(.sl 106 ts_Key)] F_impl_SetPut := fun x => by kernel_rfl
def q281 : QF := ⟨281, F_impl_SetPut, okN (n := 1) Tryz.func281 ⟨f281k4, trivial⟩ ev281⟩
abbrev T_impl_MergeSets_3 : Type := Qz98
def S_impl_MergeSets_3 (k0 : List E_Key → Option R) (again : T_impl_MergeSets_3 → Option R) (t3 : T_impl_MergeSets_3) : Option R :=
 bif (decide (t3.2.2.1 < t3.2.1)) then if (0 : Int) ≤ t3.2.2.1 then if t3.2.2.1 < ((List.length t3.1 : Nat) : Int) then Option.bind (F_impl_SetPut (t3.2.2.2, (rd_Key t3.1 t3.2.2.1).1, (rd_Key t3.1 t3.2.2.1).2.1, (rd_Key t3.1 t3.2.2.1).2.2.1, (rd_Key t3.1 t3.2.2.1).2.2.2.1, (rd_Key t3.1 t3.2.2.1).2.2.2.2)) fun r2 => again (t3.1, t3.2.1, (Go.IntKind.wrap .i64 (t3.2.2.1 + (1 : Int))), r2) else none else none else k0 t3.2.2.2
def L_impl_MergeSets_3 k0 := iter (@S_impl_MergeSets_3 R k0) FUEL
def F_impl_MergeSets (x : Qz19) : Option (List E_Key) :=
 Option.bind (F_impl_copyKeys x.1) fun r1 => L_impl_MergeSets_3 (fun x3 => some x3) (x.2, ((List.length x.2 : Nat) : Int), (0 : Int), r1)
def f248Q : List QF := [q280, q281]
def f248e3_0 (t : Qz98) : St := ⟨dd 5 (.own 10000000 :: dd 4 (v_Key t.1 :: vI t.2.1 :: vI t.2.2.1 :: dd 8 [])), [(10000000, .root true 106 ts_Key t.2.2.2)]⟩
def f248g3 : Gk T_impl_MergeSets_3 := fun κ => S_impl_MergeSets_3 (fun t => κ (some 0) ⟨dd 5 (.own 10000000 :: dd 15 []), [(10000000, .root true 106 ts_Key t)]⟩)
def f248P : Lp := lpC 3 (unG qz98 f248e3_0) @f248g3 lpN
theorem f248C3 : LF f248Q f248P 248 3 Tryz.f248 0 f248e3_0 @f248g3 fun t => t := fun R κ again t => by kernel_rfl
theorem f248k3 : LK f248Q f248P 248 Tryz.f248 0 := lkN (u := (unG qz98 f248e3_0)) (unG_ok fun t => by kernel_rfl) f248C3
theorem ev248 : EV f248Q f248P 248 Tryz.f248 sg248 qz19 [(.sl 106 ts_Key)] F_impl_MergeSets := fun x => by kernel_rfl
def q248 : QF := ⟨248, F_impl_MergeSets, okN (n := 1) Tryz.func248 ⟨f248k3, trivial⟩ ev248⟩
abbrev T_impl_Drop_3 : Type := Qz98
def S_impl_Drop_3 (k0 : List E_Key → Option R) (again : T_impl_Drop_3 → Option R) (t3 : T_impl_Drop_3) : Option R :=
 bif (decide (t3.2.2.1 < t3.2.1)) then if (0 : Int) ≤ t3.2.2.1 then if t3.2.2.1 < ((List.length t3.1 : Nat) : Int) then bif ((rd_Key t3.1 t3.2.2.1).2.2.1 != (0 : Int)) then if (List.length t3.2.2.2 + List.length ([((rd_Key t3.1 t3.2.2.1).1, (rd_Key t3.1 t3.2.2.1).2.1, (rd_Key t3.1 t3.2.2.1).2.2.1, (rd_Key t3.1 t3.2.2.1).2.2.2.1, (rd_Key t3.1 t3.2.2.1).2.2.2.2)] : List E_Key)) * 40 < 140737488355328 then again (t3.1, t3.2.1, (Go.IntKind.wrap .i64 (t3.2.2.1 + (1 : Int))), (t3.2.2.2 ++ ([((rd_Key t3.1 t3.2.2.1).1, (rd_Key t3.1 t3.2.2.1).2.1, (rd_Key t3.1 t3.2.2.1).2.2.1, (rd_Key t3.1 t3.2.2.1).2.2.2.1, (rd_Key t3.1 t3.2.2.1).2.2.2.2)] : List E_Key))) else none else again (t3.1, t3.2.1, (Go.IntKind.wrap .i64 (t3.2.2.1 + (1 : Int))), t3.2.2.2) else none else none else k0 t3.2.2.2
def L_impl_Drop_3 k0 := iter (@S_impl_Drop_3 R k0) FUEL
def F_impl_Drop (x : List E_Key) : Option (List E_Key) :=
 L_impl_Drop_3 (fun x1 => some x1) (x, ((List.length x : Nat) : Int), (0 : Int), ([] : List E_Key))
def f249Q : List QF := []
def f249e3_0 (t : Qz98) : St := ⟨dd 3 (.own 10000000 :: dd 3 (v_Key t.1 :: vI t.2.1 :: vI t.2.2.1 :: dd 12 [])), [(10000000, .root true 106 ts_Key t.2.2.2)]⟩
def f249g3 : Gk T_impl_Drop_3 := fun κ => S_impl_Drop_3 (fun t => κ (some 0) ⟨dd 3 (.own 10000000 :: dd 18 []), [(10000000, .root true 106 ts_Key t)]⟩)
def f249P : Lp := lpC 3 (unG qz98 f249e3_0) @f249g3 lpN
theorem f249C3 : LF f249Q f249P 249 3 Tryz.f249 0 f249e3_0 @f249g3 fun t => t := fun R κ again t => by kernel_rfl
theorem f249k3 : LK f249Q f249P 249 Tryz.f249 0 := lkN (u := (unG qz98 f249e3_0)) (unG_ok fun t => by kernel_rfl) f249C3
theorem ev249 : EV f249Q f249P 249 Tryz.f249 sg249 [(.sl 106 ts_Key)] [(.sl 106 ts_Key)] F_impl_Drop := fun x => by kernel_rfl
def q249 : QF := ⟨249, F_impl_Drop, okN (n := 1) Tryz.func249 ⟨f249k3, trivial⟩ ev249⟩
abbrev T_impl_NodeKeys_3 : Type := Qz99
def S_impl_NodeKeys_3 (k0 : List E_Key → Option R) (again : T_impl_NodeKeys_3 → Option R) (t3 : T_impl_NodeKeys_3) : Option R :=
 bif (decide (t3.2.2.1 < t3.2.1)) then if (0 : Int) ≤ t3.2.2.1 then if t3.2.2.1 < ((List.length t3.1 : Nat) : Int) then Option.bind (F_impl_MergeSets (t3.2.2.2, (rd_s_Key t3.1 t3.2.2.1))) fun r1 => again (t3.1, t3.2.1, (Go.IntKind.wrap .i64 (t3.2.2.1 + (1 : Int))), r1) else none else none else k0 t3.2.2.2
def L_impl_NodeKeys_3 k0 := iter (@S_impl_NodeKeys_3 R k0) FUEL
def F_impl_NodeKeys (x : List E_s_Key) : Option (List E_Key) :=
 L_impl_NodeKeys_3 (fun x2 => Option.bind (F_impl_Drop x2) fun r3 => some r3) (x, ((List.length x : Nat) : Int), (0 : Int), ([] : List E_Key))
def f206Q : List QF := [q248, q249]
def f206e3_0 (t : Qz99) : St := ⟨dd 3 (.own 10000000 :: dd 4 (v_s_Key t.1 :: vI t.2.1 :: vI t.2.2.1 :: dd 9 [])), [(10000000, .root true 106 ts_Key t.2.2.2)]⟩
def f206g3 : Gk T_impl_NodeKeys_3 := fun κ => S_impl_NodeKeys_3 (fun t => κ (some 0) ⟨dd 3 (.own 10000000 :: dd 16 []), [(10000000, .root true 106 ts_Key t)]⟩)
def f206P : Lp := lpC 3 (unG qz99 f206e3_0) @f206g3 lpN
theorem f206C3 : LF f206Q f206P 206 3 Tryz.f206 0 f206e3_0 @f206g3 fun t => t := fun R κ again t => by kernel_rfl
theorem f206k3 : LK f206Q f206P 206 Tryz.f206 0 := lkN (u := (unG qz99 f206e3_0)) (unG_ok fun t => by kernel_rfl) f206C3
theorem ev206 : EV f206Q f206P 206 Tryz.f206 sg206 [(.sl 100 ts_s_Key)] [(.sl 106 ts_Key)] F_impl_NodeKeys := fun x => by kernel_rfl
def q206 : QF := ⟨206, F_impl_NodeKeys, okN (n := 1) Tryz.func206 ⟨f206k3, trivial⟩ ev206⟩
abbrev T_impl_TreeOk_5 : Type := Qz100
def S_impl_TreeOk_5 (k0 : Qz101 → Option R) (k1 : Int → Option R) (again : T_impl_TreeOk_5 → Option R) (t5 : T_impl_TreeOk_5) : Option R :=
 bif (decide (t5.2.2.2.1 < t5.2.2.1)) then if (0 : Int) ≤ t5.2.2.2.1 then if t5.2.2.2.1 < ((List.length t5.2.1 : Nat) : Int) then Option.bind (bif (decide (t5.2.2.2.1 > (0 : Int))) then if (0 : Int) ≤ (Go.IntKind.wrap .i64 (t5.2.2.2.1 - (1 : Int))) then if (Go.IntKind.wrap .i64 (t5.2.2.2.1 - (1 : Int))) < ((List.length t5.2.2.2.2.1 : Nat) : Int) then if (0 : Int) ≤ t5.2.2.2.1 then if t5.2.2.2.1 < ((List.length t5.2.2.2.2.1 : Nat) : Int) then some (decide ((rd_i64 t5.2.2.2.2.1 (Go.IntKind.wrap .i64 (t5.2.2.2.1 - (1 : Int)))) ≥ (rd_i64 t5.2.2.2.2.1 t5.2.2.2.1))) else none else none else none else none else some false) fun u4 => Option.bind (bif u4 then some true else Option.bind (F_impl_NodeOk (rd_Node t5.2.1 t5.2.2.2.1)) fun r6 => some (!r6)) fun u5 => Option.bind (bif u5 then some true else Option.bind (F_impl_inBounds (t5.2.2.2.2.1, t5.2.2.2.2.2, t5.2.2.2.1)) fun r8 => some (!r8)) fun u7 => bif u7 then k0 (false, t5.1) else Option.bind (F_impl_NodeKeys (rd_Node t5.2.1 t5.2.2.2.1)) fun r9 => Option.bind (bif (decide (t5.2.2.2.1 > (0 : Int))) then some (((List.length r9 : Nat) : Int) == (0 : Int)) else some false) fun u10 => bif u10 then k0 (false, t5.1) else again ((Go.IntKind.wrap .i64 (t5.1 + ((List.length r9 : Nat) : Int))), t5.2.1, t5.2.2.1, (Go.IntKind.wrap .i64 (t5.2.2.2.1 + (1 : Int))), t5.2.2.2.2.1, t5.2.2.2.2.2) else none else none else k1 t5.1
def L_impl_TreeOk_5 k0 k1 := iter (@S_impl_TreeOk_5 R k0 k1) FUEL
def F_impl_TreeOk (x : Qz22) : Option Bool :=
 Option.bind (F_impl_within (((List.length x.2 : Nat) : Int), (1 : Int), (20 : Int))) fun r1 => Option.bind (bif (!r1) then some true else some (((List.length x.1 : Nat) : Int) != ((List.length x.2 : Nat) : Int))) fun u2 => Option.bind (bif u2 then some true else if (0 : Int) ≤ (0 : Int) then if (0 : Int) < ((List.length x.1 : Nat) : Int) then some ((rd_i64 x.1 (0 : Int)) != (0 : Int)) else none else none) fun u3 => bif u3 then some false else L_impl_TreeOk_5 (fun x11 => some x11.1) (fun x12 => some (decide (x12 ≤ (60 : Int)))) ((0 : Int), x.2, ((List.length x.2 : Nat) : Int), (0 : Int), x.1, x.2)
def f131Q : List QF := [q134, q204, q205, q206]
def f131e5_0 (t : Qz100) : St := ⟨.dead :: .box 1 0 :: .dead :: vI t.1 :: dd 25 (v_Node t.2.1 :: vI t.2.2.1 :: vI t.2.2.2.1 :: dd 46 []), [(1, .box [v_i64 t.2.2.2.2.1, v_Node t.2.2.2.2.2])]⟩
def f131g5 : Gk T_impl_TreeOk_5 := fun κ => S_impl_TreeOk_5 (fun t => κ none ⟨dd 2 (vB t.1 :: vI t.2 :: dd 74 []), []⟩) (fun t => κ (some 0) ⟨dd 3 (vI t :: dd 74 []), []⟩)
def f131P : Lp := lpC 5 (unG qz100 f131e5_0) @f131g5 lpN
theorem f131C5 : LF f131Q f131P 131 5 Tryz.f131 0 f131e5_0 @f131g5 fun t => t := fun R κ again t => by kernel_rfl
theorem f131k5 : LK f131Q f131P 131 Tryz.f131 0 := lkN (u := (unG qz100 f131e5_0)) (unG_ok fun t => by kernel_rfl) f131C5
theorem ev131 : EV f131Q f131P 131 Tryz.f131 sg131 qz22 [.bool] F_impl_TreeOk := fun x => by kernel_rfl
def q131 : QF := ⟨131, F_impl_TreeOk, okN (n := 1) Tryz.func131 ⟨f131k5, trivial⟩ ev131⟩
def F_impl_AgeAt_1 (x : Qz13) : Option Qz101 :=
 some ((x.1 == x.2.2), x.2.2)
theorem ev251 : EV [] lpN 251 Tryz.f251 sg251 qz13 qz101 F_impl_AgeAt_1 := fun x => by kernel_rfl
def q251 : QF := ⟨251, F_impl_AgeAt_1, okN (n := 0) Tryz.func251 trivial ev251⟩
abbrev T_slices_IndexFunc_Age_impl_AgeAt_1_2 : Type := Qz102
def S_slices_IndexFunc_Age_impl_AgeAt_1_2 (k0 : Qz6 → Option R) (k1 : Int → Option R) (again : T_slices_IndexFunc_Age_impl_AgeAt_1_2 → Option R) (t2 : T_slices_IndexFunc_Age_impl_AgeAt_1_2) : Option R :=
 bif (decide (t2.2.2.1 < t2.2.1)) then if (0 : Int) ≤ t2.2.2.1 then if t2.2.2.1 < ((List.length t2.1 : Nat) : Int) then Option.bind (F_impl_AgeAt_1 ((rd_Age t2.1 t2.2.2.1).1, (rd_Age t2.1 t2.2.2.1).2, t2.2.2.2)) fun r1 => bif r1.1 then k0 (t2.2.2.1, r1.2) else again (t2.1, t2.2.1, (Go.IntKind.wrap .i64 (t2.2.2.1 + (1 : Int))), r1.2) else none else none else k1 t2.2.2.2
def L_slices_IndexFunc_Age_impl_AgeAt_1_2 k0 k1 := iter (@S_slices_IndexFunc_Age_impl_AgeAt_1_2 R k0 k1) FUEL
def F_slices_IndexFunc_Age_impl_AgeAt_1 (x : Qz36) : Option Qz6 :=
 L_slices_IndexFunc_Age_impl_AgeAt_1_2 (fun x2 => some (x2.1, x2.2)) (fun x3 => some ((-1 : Int), x3)) (x.1, ((List.length x.1 : Nat) : Int), (0 : Int), x.2)
def f100000Q : List QF := [q251]
def f100000e2_0 (t : Qz102) : St := ⟨v_Age t.1 :: .clo 251 901 :: dd 5 (vI t.2.1 :: vI t.2.2.1 :: dd 10 []), [(901, .box [vI t.2.2.2])]⟩
def f100000g2 : Gk T_slices_IndexFunc_Age_impl_AgeAt_1_2 := fun κ => S_slices_IndexFunc_Age_impl_AgeAt_1_2 (fun t => κ none ⟨.dead :: .clo 251 901 :: dd 2 (vI t.1 :: dd 14 []), [(901, .box [vI t.2])]⟩) (fun t => κ (some 0) ⟨.dead :: .clo 251 901 :: dd 17 [], [(901, .box [vI t])]⟩)
def f100000P : Lp := lpC 2 (unG qz102 f100000e2_0) @f100000g2 lpN
theorem f100000C2 : LF f100000Q f100000P 100000 2 Tryz.f250 0 f100000e2_0 @f100000g2 fun t => t := fun R κ again t => by kernel_rfl
theorem f100000k2 : LK f100000Q f100000P 100000 Tryz.f250 0 := lkN (u := (unG qz102 f100000e2_0)) (unG_ok fun t => by kernel_rfl) f100000C2
theorem ev100000 : EV f100000Q f100000P 100000 Tryz.f250 sg100000 qz36 qz6 F_slices_IndexFunc_Age_impl_AgeAt_1 := fun x => by kernel_rfl
def q100000 : QF := ⟨100000, F_slices_IndexFunc_Age_impl_AgeAt_1, okN (n := 1) Tryz.func250 ⟨f100000k2, trivial⟩ ev100000⟩
def F_impl_AgeAt (x : Qz36) : Option Int :=
 Option.bind (F_slices_IndexFunc_Age_impl_AgeAt_1 (x.1, x.2)) fun r1 => some r1.1
theorem ev207 : EV [q100000] lpN 207 Tryz.f207 sg207 qz36 [(.int .i64)] F_impl_AgeAt := fun x => by kernel_rfl
def q207 : QF := ⟨207, F_impl_AgeAt, okN (n := 0) Tryz.func207 trivial ev207⟩
abbrev T_impl_AgesOk_2 : Type := Qz103
def S_impl_AgesOk_2 (k0 : Qz37 → Option R) (k1 : List E_Age → Option R) (again : T_impl_AgesOk_2 → Option R) (t2 : T_impl_AgesOk_2) : Option R :=
 bif (decide (t2.2.2.2 < t2.2.2.1)) then if (0 : Int) ≤ t2.2.2.2 then if t2.2.2.2 < ((List.length t2.2.1 : Nat) : Int) then Option.bind (F_impl_within ((rd_Age t2.2.1 t2.2.2.2).1, (1 : Int), (60 : Int))) fun r1 => Option.bind (bif (!r1) then some true else Option.bind (bif (decide (t2.2.2.2 > (0 : Int))) then if (0 : Int) ≤ (Go.IntKind.wrap .i64 (t2.2.2.2 - (1 : Int))) then if (Go.IntKind.wrap .i64 (t2.2.2.2 - (1 : Int))) < ((List.length t2.1 : Nat) : Int) then some (decide ((rd_Age t2.1 (Go.IntKind.wrap .i64 (t2.2.2.2 - (1 : Int)))).1 ≥ (rd_Age t2.2.1 t2.2.2.2).1)) else none else none else some false) fun u3 => some u3) fun u2 => Option.bind (bif u2 then some true else Option.bind (bif ((rd_Age t2.2.1 t2.2.2.2).2 != (0 : Int)) then if (0 : Int) ≤ (0 : Int) then if (0 : Int) ≤ t2.2.2.2 then if t2.2.2.2 ≤ ((List.length t2.1 : Nat) : Int) then Option.bind (F_impl_AgeAt ((List.drop (Int.toNat (0 : Int)) (List.take (Int.toNat t2.2.2.2) t2.1)), (rd_Age t2.2.1 t2.2.2.2).2)) fun r6 => some (decide (r6 < (0 : Int))) else none else none else none else some false) fun u5 => some u5) fun u4 => bif u4 then k0 (t2.1, false) else again (t2.1, t2.2.1, t2.2.2.1, (Go.IntKind.wrap .i64 (t2.2.2.2 + (1 : Int)))) else none else none else k1 t2.1
def L_impl_AgesOk_2 k0 k1 := iter (@S_impl_AgesOk_2 R k0 k1) FUEL
def F_impl_AgesOk (x : List E_Age) : Option Bool :=
 L_impl_AgesOk_2 (fun x7 => some x7.2) (fun x8 => some (decide (((List.length x8 : Nat) : Int) ≤ (16 : Int)))) (x, x, ((List.length x : Nat) : Int), (0 : Int))
def f132Q : List QF := [q134, q207]
def f132e2_0 (t : Qz103) : St := ⟨v_Age t.1 :: dd 4 (v_Age t.2.1 :: vI t.2.2.1 :: vI t.2.2.2 :: dd 41 []), []⟩
def f132g2 : Gk T_impl_AgesOk_2 := fun κ => S_impl_AgesOk_2 (fun t => κ none ⟨v_Age t.1 :: .dead :: vB t.2 :: dd 46 [], []⟩) (fun t => κ (some 0) ⟨v_Age t :: dd 48 [], []⟩)
def f132P : Lp := lpC 2 (unG qz103 f132e2_0) @f132g2 lpN
theorem f132C2 : LF f132Q f132P 132 2 Tryz.f132 0 f132e2_0 @f132g2 fun t => t := fun R κ again t => by kernel_rfl
theorem f132k2 : LK f132Q f132P 132 Tryz.f132 0 := lkN (u := (unG qz103 f132e2_0)) (unG_ok fun t => by kernel_rfl) f132C2
theorem ev132 : EV f132Q f132P 132 Tryz.f132 sg132 [(.sl 89 ts_Age)] [.bool] F_impl_AgesOk := fun x => by kernel_rfl
def q132 : QF := ⟨132, F_impl_AgesOk, okN (n := 1) Tryz.func132 ⟨f132k2, trivial⟩ ev132⟩
def F_impl_isWord (x : Int) : Option Bool :=
 Option.bind (F_impl_within (x, (0 : Int), (65535 : Int))) fun r1 => some r1
theorem ev208 : EV [q134] lpN 208 Tryz.f208 sg208 [(.int .i64)] [.bool] F_impl_isWord := fun x => by kernel_rfl
def q208 : QF := ⟨208, F_impl_isWord, okN (n := 0) Tryz.func208 trivial ev208⟩
abbrev T_impl_CellsOk_2 : Type := Qz104
def S_impl_CellsOk_2 (k0 : Qz39 → Option R) (k1 : List E_Cell → Option R) (again : T_impl_CellsOk_2 → Option R) (t2 : T_impl_CellsOk_2) : Option R :=
 bif (decide (t2.2.2.2 < t2.2.2.1)) then if (0 : Int) ≤ t2.2.2.2 then if t2.2.2.2 < ((List.length t2.2.1 : Nat) : Int) then Option.bind (F_impl_within ((rd_Cell t2.2.1 t2.2.2.2).1, (0 : Int), (999 : Int))) fun r1 => Option.bind (bif (!r1) then some true else Option.bind (F_impl_isWord ((rd_Cell t2.2.1 t2.2.2.2).2.2)) fun r3 => some (!r3)) fun u2 => Option.bind (bif u2 then some true else Option.bind (bif ((rd_Cell t2.2.1 t2.2.2.2).2.2 != (0 : Int)) then some (!((rd_Cell t2.2.1 t2.2.2.2).2.1)) else some false) fun u5 => some u5) fun u4 => bif u4 then k0 (t2.1, false) else again (t2.1, t2.2.1, t2.2.2.1, (Go.IntKind.wrap .i64 (t2.2.2.2 + (1 : Int)))) else none else none else k1 t2.1
def L_impl_CellsOk_2 k0 k1 := iter (@S_impl_CellsOk_2 R k0 k1) FUEL
def F_impl_CellsOk (x : List E_Cell) : Option Bool :=
 L_impl_CellsOk_2 (fun x6 => some x6.2) (fun x7 => some (((List.length x7 : Nat) : Int) == (24 : Int))) (x, x, ((List.length x : Nat) : Int), (0 : Int))
def f133Q : List QF := [q134, q208]
def f133e2_0 (t : Qz104) : St := ⟨v_Cell t.1 :: dd 4 (v_Cell t.2.1 :: vI t.2.2.1 :: vI t.2.2.2 :: dd 27 []), []⟩
def f133g2 : Gk T_impl_CellsOk_2 := fun κ => S_impl_CellsOk_2 (fun t => κ none ⟨v_Cell t.1 :: .dead :: vB t.2 :: dd 32 [], []⟩) (fun t => κ (some 0) ⟨v_Cell t :: dd 34 [], []⟩)
def f133P : Lp := lpC 2 (unG qz104 f133e2_0) @f133g2 lpN
theorem f133C2 : LF f133Q f133P 133 2 Tryz.f133 0 f133e2_0 @f133g2 fun t => t := fun R κ again t => by kernel_rfl
theorem f133k2 : LK f133Q f133P 133 Tryz.f133 0 := lkN (u := (unG qz104 f133e2_0)) (unG_ok fun t => by kernel_rfl) f133C2
theorem ev133 : EV f133Q f133P 133 Tryz.f133 sg133 [(.sl 95 ts_Cell)] [.bool] F_impl_CellsOk := fun x => by kernel_rfl
def q133 : QF := ⟨133, F_impl_CellsOk, okN (n := 1) Tryz.func133 ⟨f133k2, trivial⟩ ev133⟩
abbrev T_impl_NameOk_2 : Type := Qz40
def S_impl_NameOk_2 (k0 : Qz41 → Option R) (k1 : ByteArray → Option R) (again : T_impl_NameOk_2 → Option R) (t2 : T_impl_NameOk_2) : Option R :=
 bif (decide (t2.2 < ((ByteArray.size t2.1 : Nat) : Int))) then if (0 : Int) ≤ t2.2 then if h1 : Int.toNat t2.2 < ByteArray.size t2.1 then Option.bind (F_impl_within ((Go.IntKind.wrap .i64 ((UInt8.toNat (ByteArray.get t2.1 (Int.toNat t2.2) h1) : Nat) : Int)), (97 : Int), (122 : Int))) fun r2 => Option.bind (bif (!r2) then if (0 : Int) ≤ t2.2 then if h4 : Int.toNat t2.2 < ByteArray.size t2.1 then Option.bind (F_impl_within ((Go.IntKind.wrap .i64 ((UInt8.toNat (ByteArray.get t2.1 (Int.toNat t2.2) h4) : Nat) : Int)), (48 : Int), (57 : Int))) fun r5 => some (!r5) else none else none else some false) fun u3 => bif u3 then k0 (t2.1, false) else again (t2.1, (Go.IntKind.wrap .i64 (t2.2 + (1 : Int)))) else none else none else k1 t2.1
def L_impl_NameOk_2 k0 k1 := iter (@S_impl_NameOk_2 R k0 k1) FUEL
def F_impl_NameOk (x : ByteArray) : Option Bool :=
 L_impl_NameOk_2 (fun x6 => some x6.2) (fun x7 => Option.bind (F_impl_within (((ByteArray.size x7 : Nat) : Int), (1 : Int), (6 : Int))) fun r8 => some r8) (x, (0 : Int))
def f209Q : List QF := [q134]
def f209e2_0 (t : Qz40) : St := ⟨vS t.1 :: dd 2 (vI t.2 :: dd 23 []), []⟩
def f209g2 : Gk T_impl_NameOk_2 := fun κ => S_impl_NameOk_2 (fun t => κ none ⟨vS t.1 :: .dead :: vB t.2 :: dd 24 [], []⟩) (fun t => κ (some 0) ⟨vS t :: dd 26 [], []⟩)
def f209P : Lp := lpC 2 (unG qz40 f209e2_0) @f209g2 lpN
theorem f209C2 : LF f209Q f209P 209 2 Tryz.f209 0 f209e2_0 @f209g2 fun t => t := fun R κ again t => by kernel_rfl
theorem f209k2 : LK f209Q f209P 209 Tryz.f209 0 := lkN (u := (unG qz40 f209e2_0)) (unG_ok fun t => by kernel_rfl) f209C2
theorem ev209 : EV f209Q f209P 209 Tryz.f209 sg209 [.str] [.bool] F_impl_NameOk := fun x => by kernel_rfl
def q209 : QF := ⟨209, F_impl_NameOk, okN (n := 1) Tryz.func209 ⟨f209k2, trivial⟩ ev209⟩
abbrev T_impl_KidsOf_5 : Type := Qz105
def S_impl_KidsOf_5 (k0 : List E_i64 → Option R) (again : T_impl_KidsOf_5 → Option R) (t5 : T_impl_KidsOf_5) : Option R :=
 bif (decide (t5.2.2.2.1 < t5.2.2.1)) then if (0 : Int) ≤ t5.2.2.2.1 then if t5.2.2.2.1 < ((List.length t5.2.1 : Nat) : Int) then bif ((rd_Age t5.2.1 t5.2.2.2.1).2 == t5.1) then if (List.length t5.2.2.2.2 + List.length ([(rd_Age t5.2.1 t5.2.2.2.1).1] : List E_i64)) * 8 < 140737488355328 then again (t5.1, t5.2.1, t5.2.2.1, (Go.IntKind.wrap .i64 (t5.2.2.2.1 + (1 : Int))), (t5.2.2.2.2 ++ ([(rd_Age t5.2.1 t5.2.2.2.1).1] : List E_i64))) else none else again (t5.1, t5.2.1, t5.2.2.1, (Go.IntKind.wrap .i64 (t5.2.2.2.1 + (1 : Int))), t5.2.2.2.2) else none else none else k0 t5.2.2.2.2
def L_impl_KidsOf_5 k0 := iter (@S_impl_KidsOf_5 R k0) FUEL
def F_impl_KidsOf (x : Qz36) : Option (List E_i64) :=
 bif (x.2 == (0 : Int)) then some ([] : List E_i64) else L_impl_KidsOf_5 (fun x1 => some x1) (x.2, x.1, ((List.length x.1 : Nat) : Int), (0 : Int), ([] : List E_i64))
def f210Q : List QF := []
def f210e5_0 (t : Qz105) : St := ⟨.dead :: vI t.1 :: dd 3 (.own 10000000 :: dd 6 (v_Age t.2.1 :: vI t.2.2.1 :: vI t.2.2.2.1 :: dd 14 [])), [(10000000, .root true 3 ts_i64 t.2.2.2.2)]⟩
def f210g5 : Gk T_impl_KidsOf_5 := fun κ => S_impl_KidsOf_5 (fun t => κ (some 0) ⟨dd 5 (.own 10000000 :: dd 23 []), [(10000000, .root true 3 ts_i64 t)]⟩)
def f210P : Lp := lpC 5 (unG qz105 f210e5_0) @f210g5 lpN
theorem f210C5 : LF f210Q f210P 210 5 Tryz.f210 0 f210e5_0 @f210g5 fun t => t := fun R κ again t => by kernel_rfl
theorem f210k5 : LK f210Q f210P 210 Tryz.f210 0 := lkN (u := (unG qz105 f210e5_0)) (unG_ok fun t => by kernel_rfl) f210C5
theorem ev210 : EV f210Q f210P 210 Tryz.f210 sg210 qz36 [(.sl 3 ts_i64)] F_impl_KidsOf := fun x => by kernel_rfl
def q210 : QF := ⟨210, F_impl_KidsOf, okN (n := 1) Tryz.func210 ⟨f210k5, trivial⟩ ev210⟩
def F_impl_volsOk_1 (x : Qz106) : Option Qz107 :=
 some ((x.2.1 == x.2.2.2.2.2.1), x.2.2.2.2.1, x.2.2.2.2.2.1, x.2.2.2.2.2.2.1, x.2.2.2.2.2.2.2)
theorem ev212 : EV [] lpN 212 Tryz.f212 sg212 qz106 qz107 F_impl_volsOk_1 := fun x => by kernel_rfl
def q212 : QF := ⟨212, F_impl_volsOk_1, okN (n := 0) Tryz.func212 trivial ev212⟩
abbrev T_slices_IndexFunc_Vol_impl_volsOk_1_2 : Type := Qz108
def S_slices_IndexFunc_Vol_impl_volsOk_1_2 (k0 : Qz109 → Option R) (k1 : Qz110 → Option R) (again : T_slices_IndexFunc_Vol_impl_volsOk_1_2 → Option R) (t2 : T_slices_IndexFunc_Vol_impl_volsOk_1_2) : Option R :=
 bif (decide (t2.2.2.1 < t2.2.1)) then if (0 : Int) ≤ t2.2.2.1 then if t2.2.2.1 < ((List.length t2.1 : Nat) : Int) then Option.bind (F_impl_volsOk_1 ((rd_Vol t2.1 t2.2.2.1).1, (rd_Vol t2.1 t2.2.2.1).2.1, (rd_Vol t2.1 t2.2.2.1).2.2.1, (rd_Vol t2.1 t2.2.2.1).2.2.2, t2.2.2.2.1, t2.2.2.2.2.1, t2.2.2.2.2.2.1, t2.2.2.2.2.2.2)) fun r1 => bif r1.1 then k0 (t2.2.2.1, r1.2.1, r1.2.2.1, r1.2.2.2.1, r1.2.2.2.2) else again (t2.1, t2.2.1, (Go.IntKind.wrap .i64 (t2.2.2.1 + (1 : Int))), r1.2.1, r1.2.2.1, r1.2.2.2.1, r1.2.2.2.2) else none else none else k1 (t2.2.2.2.1, t2.2.2.2.2.1, t2.2.2.2.2.2.1, t2.2.2.2.2.2.2)
def L_slices_IndexFunc_Vol_impl_volsOk_1_2 k0 k1 := iter (@S_slices_IndexFunc_Vol_impl_volsOk_1_2 R k0 k1) FUEL
def F_slices_IndexFunc_Vol_impl_volsOk_1 (x : Qz111) : Option Qz109 :=
 L_slices_IndexFunc_Vol_impl_volsOk_1_2 (fun x2 => some (x2.1, x2.2.1, x2.2.2.1, x2.2.2.2.1, x2.2.2.2.2)) (fun x3 => some ((-1 : Int), x3.1, x3.2.1, x3.2.2.1, x3.2.2.2)) (x.1, ((List.length x.1 : Nat) : Int), (0 : Int), x.2.1, x.2.2.1, x.2.2.2.1, x.2.2.2.2)
def f100002Q : List QF := [q212]
def f100002e2_0 (t : Qz108) : St := ⟨v_Vol t.1 :: .clo 212 901 :: dd 5 (vI t.2.1 :: vI t.2.2.1 :: dd 10 []), [(901, .box [vS t.2.2.2.1, vI t.2.2.2.2.1, vI t.2.2.2.2.2.1, vB t.2.2.2.2.2.2])]⟩
def f100002g2 : Gk T_slices_IndexFunc_Vol_impl_volsOk_1_2 := fun κ => S_slices_IndexFunc_Vol_impl_volsOk_1_2 (fun t => κ none ⟨.dead :: .clo 212 901 :: dd 2 (vI t.1 :: dd 14 []), [(901, .box [vS t.2.1, vI t.2.2.1, vI t.2.2.2.1, vB t.2.2.2.2])]⟩) (fun t => κ (some 0) ⟨.dead :: .clo 212 901 :: dd 17 [], [(901, .box [vS t.1, vI t.2.1, vI t.2.2.1, vB t.2.2.2])]⟩)
def f100002P : Lp := lpC 2 (unG qz108 f100002e2_0) @f100002g2 lpN
theorem f100002C2 : LF f100002Q f100002P 100002 2 Tryz.f252 0 f100002e2_0 @f100002g2 fun t => t := fun R κ again t => by kernel_rfl
theorem f100002k2 : LK f100002Q f100002P 100002 Tryz.f252 0 := lkN (u := (unG qz108 f100002e2_0)) (unG_ok fun t => by kernel_rfl) f100002C2
theorem ev100002 : EV f100002Q f100002P 100002 Tryz.f252 sg100002 qz111 qz109 F_slices_IndexFunc_Vol_impl_volsOk_1 := fun x => by kernel_rfl
def q100002 : QF := ⟨100002, F_slices_IndexFunc_Vol_impl_volsOk_1, okN (n := 1) Tryz.func252 ⟨f100002k2, trivial⟩ ev100002⟩
def F_slices_ContainsFunc_Vol_impl_volsOk_1 (x : Qz111) : Option Qz107 :=
 Option.bind (F_slices_IndexFunc_Vol_impl_volsOk_1 (x.1, x.2.1, x.2.2.1, x.2.2.2.1, x.2.2.2.2)) fun r1 => some ((decide (r1.1 ≥ (0 : Int))), r1.2.1, r1.2.2.1, r1.2.2.2.1, r1.2.2.2.2)
theorem ev100001 : EV [q100002] lpN 100001 Tryz.f211 sg100001 qz111 qz107 F_slices_ContainsFunc_Vol_impl_volsOk_1 := fun x => by kernel_rfl
def q100001 : QF := ⟨100001, F_slices_ContainsFunc_Vol_impl_volsOk_1, okN (n := 0) Tryz.func211 trivial ev100001⟩
abbrev T_impl_volsOk_2 : Type := Qz112
def S_impl_volsOk_2 (k0 : Qz46 → Option R) (k1 : Qz47 → Option R) (again : T_impl_volsOk_2 → Option R) (t2 : T_impl_volsOk_2) : Option R :=
 bif (decide (t2.2.2.1 < t2.2.1)) then if (0 : Int) ≤ t2.2.2.1 then if t2.2.2.1 < ((List.length t2.1 : Nat) : Int) then Option.bind (F_impl_NameOk ((rd_Vol t2.1 t2.2.2.1).1)) fun r1 => Option.bind (bif (!r1) then some true else Option.bind (bif (decide (t2.2.2.1 > (0 : Int))) then if (0 : Int) ≤ (Go.IntKind.wrap .i64 (t2.2.2.1 - (1 : Int))) then if (Go.IntKind.wrap .i64 (t2.2.2.1 - (1 : Int))) < ((List.length t2.2.2.2.2.2.2.2.1 : Nat) : Int) then some (!Go.Op.bytesLess (ByteArray.toList ((rd_Vol t2.2.2.2.2.2.2.2.1 (Go.IntKind.wrap .i64 (t2.2.2.1 - (1 : Int)))).1)) (ByteArray.toList ((rd_Vol t2.1 t2.2.2.1).1))) else none else none else some false) fun u3 => some u3) fun u2 => Option.bind (bif u2 then some true else Option.bind (F_impl_within ((rd_Vol t2.1 t2.2.2.1).2.2.1, (1 : Int), (12 : Int))) fun r5 => some (!r5)) fun u4 => bif u4 then k0 (false, t2.2.2.2.1, t2.2.2.2.2.1, t2.2.2.2.2.2.1, t2.2.2.2.2.2.2.1, t2.2.2.2.2.2.2.2.1, t2.2.2.2.2.2.2.2.2) else Option.bind (F_impl_AgeAt (t2.2.2.2.2.2.1, (rd_Vol t2.1 t2.2.2.1).2.1)) fun r6 => Option.bind (bif (decide (r6 < (0 : Int))) then some true else Option.bind (F_impl_KidsOf (t2.2.2.2.2.2.1, (rd_Vol t2.1 t2.2.2.1).2.1)) fun r8 => some (decide (((List.length r8 : Nat) : Int) > (0 : Int)))) fun u7 => bif u7 then k0 (false, t2.2.2.2.1, t2.2.2.2.2.1, t2.2.2.2.2.2.1, t2.2.2.2.2.2.2.1, t2.2.2.2.2.2.2.2.1, t2.2.2.2.2.2.2.2.2) else if (0 : Int) ≤ (0 : Int) then if (0 : Int) ≤ t2.2.2.1 then if t2.2.2.1 ≤ ((List.length t2.2.2.2.2.2.2.2.1 : Nat) : Int) then Option.bind (F_slices_ContainsFunc_Vol_impl_volsOk_1 ((List.drop (Int.toNat (0 : Int)) (List.take (Int.toNat t2.2.2.1) t2.2.2.2.2.2.2.2.1)), (rd_Vol t2.1 t2.2.2.1).1, (rd_Vol t2.1 t2.2.2.1).2.1, (rd_Vol t2.1 t2.2.2.1).2.2.1, (rd_Vol t2.1 t2.2.2.1).2.2.2)) fun r9 => bif r9.1 then k0 (false, t2.2.2.2.1, t2.2.2.2.2.1, t2.2.2.2.2.2.1, t2.2.2.2.2.2.2.1, t2.2.2.2.2.2.2.2.1, t2.2.2.2.2.2.2.2.2) else again (t2.1, t2.2.1, (Go.IntKind.wrap .i64 (t2.2.2.1 + (1 : Int))), t2.2.2.2.1, t2.2.2.2.2.1, t2.2.2.2.2.2.1, t2.2.2.2.2.2.2.1, t2.2.2.2.2.2.2.2.1, t2.2.2.2.2.2.2.2.2) else none else none else none else none else none else k1 (t2.2.2.2.1, t2.2.2.2.2.1, t2.2.2.2.2.2.1, t2.2.2.2.2.2.2.1, t2.2.2.2.2.2.2.2.1, t2.2.2.2.2.2.2.2.2)
def L_impl_volsOk_2 k0 k1 := iter (@S_impl_volsOk_2 R k0 k1) FUEL
def F_impl_volsOk (x : Qz47) : Option Bool :=
 L_impl_volsOk_2 (fun x10 => some x10.1) (fun x11 => some (decide (((List.length x11.2.2.2.2.1 : Nat) : Int) ≤ (6 : Int)))) (x.2.2.2.2.1, ((List.length x.2.2.2.2.1 : Nat) : Int), (0 : Int), x.1, x.2.1, x.2.2.1, x.2.2.2.1, x.2.2.2.2.1, x.2.2.2.2.2)
def f135Q : List QF := [q134, q207, q209, q210, q100001]
def f135e2_0 (t : Qz112) : St := ⟨.dead :: .box 1 0 :: dd 4 (v_Vol t.1 :: vI t.2.1 :: vI t.2.2.1 :: dd 56 []), [(1, .box [v_i64 t.2.2.2.1, v_Node t.2.2.2.2.1, v_Age t.2.2.2.2.2.1, v_Cell t.2.2.2.2.2.2.1, v_Vol t.2.2.2.2.2.2.2.1, vI t.2.2.2.2.2.2.2.2])]⟩
def f135g2 : Gk T_impl_volsOk_2 := fun κ => S_impl_volsOk_2 (fun t => κ none ⟨.dead :: .box 1 0 :: vB t.1 :: dd 62 [], [(1, .box [v_i64 t.2.1, v_Node t.2.2.1, v_Age t.2.2.2.1, v_Cell t.2.2.2.2.1, v_Vol t.2.2.2.2.2.1, vI t.2.2.2.2.2.2])]⟩) (fun t => κ (some 0) ⟨.dead :: .box 1 0 :: dd 63 [], [(1, .box [v_i64 t.1, v_Node t.2.1, v_Age t.2.2.1, v_Cell t.2.2.2.1, v_Vol t.2.2.2.2.1, vI t.2.2.2.2.2])]⟩)
def f135P : Lp := lpC 2 (unG qz112 f135e2_0) @f135g2 lpN
theorem f135C2 : LF f135Q f135P 135 2 Tryz.f135 0 f135e2_0 @f135g2 fun t => t := fun R κ again t => by kernel_rfl
theorem f135k2 : LK f135Q f135P 135 Tryz.f135 0 := lkN (u := (unG qz112 f135e2_0)) (unG_ok fun t => by kernel_rfl) f135C2
theorem ev135 : EV f135Q f135P 135 Tryz.f135 sg135 qz47 [.bool] F_impl_volsOk := fun x => by kernel_rfl
def q135 : QF := ⟨135, F_impl_volsOk, okN (n := 1) Tryz.func135 ⟨f135k2, trivial⟩ ev135⟩
abbrev T_impl_TreeKeys_3 : Type := Qz113
def S_impl_TreeKeys_3 (k0 : List E_Key → Option R) (again : T_impl_TreeKeys_3 → Option R) (t3 : T_impl_TreeKeys_3) : Option R :=
 bif (decide (t3.2.2.1 < t3.2.1)) then if (0 : Int) ≤ t3.2.2.1 then if t3.2.2.1 < ((List.length t3.1 : Nat) : Int) then Option.bind (F_impl_NodeKeys (rd_Node t3.1 t3.2.2.1)) fun r1 => if (List.length t3.2.2.2 + List.length r1) * 40 < 140737488355328 then again (t3.1, t3.2.1, (Go.IntKind.wrap .i64 (t3.2.2.1 + (1 : Int))), (t3.2.2.2 ++ r1)) else none else none else none else k0 t3.2.2.2
def L_impl_TreeKeys_3 k0 := iter (@S_impl_TreeKeys_3 R k0) FUEL
def F_impl_TreeKeys (x : Qz22) : Option (List E_Key) :=
 L_impl_TreeKeys_3 (fun x2 => some x2) (x.2, ((List.length x.2 : Nat) : Int), (0 : Int), ([] : List E_Key))
def f213Q : List QF := [q206]
def f213e3_0 (t : Qz113) : St := ⟨dd 3 (.own 10000000 :: dd 4 (v_Node t.1 :: vI t.2.1 :: vI t.2.2.1 :: dd 9 [])), [(10000000, .root true 106 ts_Key t.2.2.2)]⟩
def f213g3 : Gk T_impl_TreeKeys_3 := fun κ => S_impl_TreeKeys_3 (fun t => κ (some 0) ⟨dd 3 (.own 10000000 :: dd 16 []), [(10000000, .root true 106 ts_Key t)]⟩)
def f213P : Lp := lpC 3 (unG qz113 f213e3_0) @f213g3 lpN
theorem f213C3 : LF f213Q f213P 213 3 Tryz.f213 0 f213e3_0 @f213g3 fun t => t := fun R κ again t => by kernel_rfl
theorem f213k3 : LK f213Q f213P 213 Tryz.f213 0 := lkN (u := (unG qz113 f213e3_0)) (unG_ok fun t => by kernel_rfl) f213C3
theorem ev213 : EV f213Q f213P 213 Tryz.f213 sg213 qz22 [(.sl 106 ts_Key)] F_impl_TreeKeys := fun x => by kernel_rfl
def q213 : QF := ⟨213, F_impl_TreeKeys, okN (n := 1) Tryz.func213 ⟨f213k3, trivial⟩ ev213⟩
def F_impl_CellAt (x : Qz48) : Option Qz49 :=
 Option.bind (F_impl_within (x.2.1, (0 : Int), (Go.IntKind.wrap .i64 (((List.length x.1 : Nat) : Int) - (1 : Int))))) fun r1 => Option.bind (bif (!r1) then some true else if (0 : Int) ≤ x.2.1 then if x.2.1 < ((List.length x.1 : Nat) : Int) then some (!((rd_Cell x.1 x.2.1).2.1)) else none else none) fun u2 => Option.bind (bif u2 then some true else if (0 : Int) ≤ x.2.1 then if x.2.1 < ((List.length x.1 : Nat) : Int) then some ((rd_Cell x.1 x.2.1).1 != x.2.2) else none else none) fun u3 => bif u3 then some ((0 : Int), false) else if (0 : Int) ≤ x.2.1 then if x.2.1 < ((List.length x.1 : Nat) : Int) then some ((rd_Cell x.1 x.2.1).2.2, true) else none else none
theorem ev214 : EV [q134] lpN 214 Tryz.f214 sg214 qz48 qz49 F_impl_CellAt := fun x => by kernel_rfl
def q214 : QF := ⟨214, F_impl_CellAt, okN (n := 0) Tryz.func214 trivial ev214⟩
abbrev T_impl_UsedCells_3 : Type := Qz114
def S_impl_UsedCells_3 (k0 : Int → Option R) (again : T_impl_UsedCells_3 → Option R) (t3 : T_impl_UsedCells_3) : Option R :=
 bif (decide (t3.2.2.2 < t3.2.2.1)) then if (0 : Int) ≤ t3.2.2.2 then if t3.2.2.2 < ((List.length t3.2.1 : Nat) : Int) then bif (rd_Cell t3.2.1 t3.2.2.2).2.1 then again ((Go.IntKind.wrap .i64 (t3.1 + (1 : Int))), t3.2.1, t3.2.2.1, (Go.IntKind.wrap .i64 (t3.2.2.2 + (1 : Int)))) else again (t3.1, t3.2.1, t3.2.2.1, (Go.IntKind.wrap .i64 (t3.2.2.2 + (1 : Int)))) else none else none else k0 t3.1
def L_impl_UsedCells_3 k0 := iter (@S_impl_UsedCells_3 R k0) FUEL
def F_impl_UsedCells (x : List E_Cell) : Option Int :=
 L_impl_UsedCells_3 (fun x1 => some x1) ((0 : Int), x, ((List.length x : Nat) : Int), (0 : Int))
def f215Q : List QF := []
def f215e3_0 (t : Qz114) : St := ⟨dd 3 (vI t.1 :: dd 2 (v_Cell t.2.1 :: vI t.2.2.1 :: vI t.2.2.2 :: dd 9 [])), []⟩
def f215g3 : Gk T_impl_UsedCells_3 := fun κ => S_impl_UsedCells_3 (fun t => κ (some 0) ⟨dd 3 (vI t :: dd 14 []), []⟩)
def f215P : Lp := lpC 3 (unG qz114 f215e3_0) @f215g3 lpN
theorem f215C3 : LF f215Q f215P 215 3 Tryz.f215 0 f215e3_0 @f215g3 fun t => t := fun R κ again t => by kernel_rfl
theorem f215k3 : LK f215Q f215P 215 Tryz.f215 0 := lkN (u := (unG qz114 f215e3_0)) (unG_ok fun t => by kernel_rfl) f215C3
theorem ev215 : EV f215Q f215P 215 Tryz.f215 sg215 [(.sl 95 ts_Cell)] [(.int .i64)] F_impl_UsedCells := fun x => by kernel_rfl
def q215 : QF := ⟨215, F_impl_UsedCells, okN (n := 1) Tryz.func215 ⟨f215k3, trivial⟩ ev215⟩
abbrev T_impl_keysFit_4 : Type := Qz115
def S_impl_keysFit_4 (k0 : Qz44 → Option R) (k1 : Qz45 → Option R) (again : T_impl_keysFit_4 → Option R) (t4 : T_impl_keysFit_4) : Option R :=
 bif (decide (t4.2.2.1 < t4.2.1)) then if (0 : Int) ≤ t4.2.2.1 then if t4.2.2.1 < ((List.length t4.2.2.2.2.2.2.2.2.2.2 : Nat) : Int) then Option.bind (F_impl_AgeAt (t4.2.2.2.2.2.1, (rd_Key t4.2.2.2.2.2.2.2.2.2.2 t4.2.2.1).2.1)) fun r2 => bif (decide (r2 < (0 : Int))) then k0 (false, t4.1, t4.2.2.2.1, t4.2.2.2.2.1, t4.2.2.2.2.2.1, t4.2.2.2.2.2.2.1, t4.2.2.2.2.2.2.2.1, t4.2.2.2.2.2.2.2.2.1) else bif ((rd_Key t4.2.2.2.2.2.2.2.2.2.2 t4.2.2.1).2.2.1 != (1 : Int)) then again (t4.1, t4.2.1, (Go.IntKind.wrap .i64 (t4.2.2.1 + (1 : Int))), t4.2.2.2.1, t4.2.2.2.2.1, t4.2.2.2.2.2.1, t4.2.2.2.2.2.2.1, t4.2.2.2.2.2.2.2.1, t4.2.2.2.2.2.2.2.2.1, t4.2.2.2.2.2.2.2.2.2.1, t4.2.2.2.2.2.2.2.2.2.2) else Option.bind (F_impl_CellAt (t4.2.2.2.2.2.2.1, (rd_Key t4.2.2.2.2.2.2.2.2.2.2 t4.2.2.1).2.2.2.1, (rd_Key t4.2.2.2.2.2.2.2.2.2.2 t4.2.2.1).2.2.2.2)) fun r3 => Option.bind (bif (!r3.2) then some true else if (0 : Int) ≤ (rd_Key t4.2.2.2.2.2.2.2.2.2.2 t4.2.2.1).2.2.2.1 then if (rd_Key t4.2.2.2.2.2.2.2.2.2.2 t4.2.2.1).2.2.2.1 < ((List.length t4.2.2.2.2.2.2.2.2.2.1 : Nat) : Int) then some (rd_bool t4.2.2.2.2.2.2.2.2.2.1 ((rd_Key t4.2.2.2.2.2.2.2.2.2.2 t4.2.2.1).2.2.2.1)) else none else none) fun u4 => bif u4 then k0 (false, t4.1, t4.2.2.2.1, t4.2.2.2.2.1, t4.2.2.2.2.2.1, t4.2.2.2.2.2.2.1, t4.2.2.2.2.2.2.2.1, t4.2.2.2.2.2.2.2.2.1) else if (0 : Int) ≤ (rd_Key t4.2.2.2.2.2.2.2.2.2.2 t4.2.2.1).2.2.2.1 then if (rd_Key t4.2.2.2.2.2.2.2.2.2.2 t4.2.2.1).2.2.2.1 < ((List.length t4.2.2.2.2.2.2.2.2.2.1 : Nat) : Int) then again ((Go.IntKind.wrap .i64 (t4.1 + (1 : Int))), t4.2.1, (Go.IntKind.wrap .i64 (t4.2.2.1 + (1 : Int))), t4.2.2.2.1, t4.2.2.2.2.1, t4.2.2.2.2.2.1, t4.2.2.2.2.2.2.1, t4.2.2.2.2.2.2.2.1, t4.2.2.2.2.2.2.2.2.1, (List.set t4.2.2.2.2.2.2.2.2.2.1 (Int.toNat ((rd_Key t4.2.2.2.2.2.2.2.2.2.2 t4.2.2.1).2.2.2.1)) true), t4.2.2.2.2.2.2.2.2.2.2) else none else none else none else none else k1 (t4.1, t4.2.2.2.1, t4.2.2.2.2.1, t4.2.2.2.2.2.1, t4.2.2.2.2.2.2.1, t4.2.2.2.2.2.2.2.1, t4.2.2.2.2.2.2.2.2.1)
def L_impl_keysFit_4 k0 k1 := iter (@S_impl_keysFit_4 R k0 k1) FUEL
def F_impl_keysFit (x : Qz47) : Option Bool :=
 if (0 : Int) ≤ (24 : Int) then if (24 : Int) ≤ (24 : Int) then if (24 : Int) * ((1 : Nat) : Int) ≤ 140737488351232 then Option.bind (F_impl_TreeKeys (x.1, x.2.1)) fun r1 => L_impl_keysFit_4 (fun x5 => some x5.1) (fun x6 => Option.bind (F_impl_UsedCells x6.2.2.2.2.1) fun r7 => some (r7 == x6.1)) ((0 : Int), ((List.length r1 : Nat) : Int), (0 : Int), x.1, x.2.1, x.2.2.1, x.2.2.2.1, x.2.2.2.2.1, x.2.2.2.2.2, (List.replicate (Int.toNat (24 : Int)) z_bool), r1) else none else none else none
def f136Q : List QF := [q207, q213, q214, q215]
def f136e4_0 (t : Qz115) : St := ⟨.dead :: .box 1 0 :: .dead :: .own 10000000 :: vI t.1 :: dd 7 (.own 10000001 :: vI t.2.1 :: vI t.2.2.1 :: dd 43 []), [(1, .box [v_i64 t.2.2.2.1, v_Node t.2.2.2.2.1, v_Age t.2.2.2.2.2.1, v_Cell t.2.2.2.2.2.2.1, v_Vol t.2.2.2.2.2.2.2.1, vI t.2.2.2.2.2.2.2.2.1]), (10000000, .root true 4 ts_bool t.2.2.2.2.2.2.2.2.2.1), (10000001, .root true 106 ts_Key t.2.2.2.2.2.2.2.2.2.2)]⟩
def f136g4 : Gk T_impl_keysFit_4 := fun κ => S_impl_keysFit_4 (fun t => κ none ⟨.dead :: .box 1 0 :: vB t.1 :: .dead :: vI t.2.1 :: dd 53 [], [(1, .box [v_i64 t.2.2.1, v_Node t.2.2.2.1, v_Age t.2.2.2.2.1, v_Cell t.2.2.2.2.2.1, v_Vol t.2.2.2.2.2.2.1, vI t.2.2.2.2.2.2.2])]⟩) (fun t => κ (some 0) ⟨.dead :: .box 1 0 :: dd 2 (vI t.1 :: dd 53 []), [(1, .box [v_i64 t.2.1, v_Node t.2.2.1, v_Age t.2.2.2.1, v_Cell t.2.2.2.2.1, v_Vol t.2.2.2.2.2.1, vI t.2.2.2.2.2.2])]⟩)
def f136P : Lp := lpC 4 (unG qz115 f136e4_0) @f136g4 lpN
theorem f136C4 : LF f136Q f136P 136 4 Tryz.f136 0 f136e4_0 @f136g4 fun t => t := fun R κ again t => by kernel_rfl
theorem f136k4 : LK f136Q f136P 136 Tryz.f136 0 := lkN (u := (unG qz115 f136e4_0)) (unG_ok fun t => by kernel_rfl) f136C4
theorem ev136 : EV f136Q f136P 136 Tryz.f136 sg136 qz47 [.bool] F_impl_keysFit := fun x => by kernel_rfl
def q136 : QF := ⟨136, F_impl_keysFit, okN (n := 1) Tryz.func136 ⟨f136k4, trivial⟩ ev136⟩
abbrev T_impl_PoolOk_4 : Type := Qz116
def S_impl_PoolOk_4 (k0 : Qz46 → Option R) (k1 : Qz47 → Option R) (again : T_impl_PoolOk_4 → Option R) (t4 : T_impl_PoolOk_4) : Option R :=
 bif (decide (t4.2.2.1 < t4.2.1)) then if (0 : Int) ≤ t4.2.2.1 then if t4.2.2.1 < ((List.length t4.1 : Nat) : Int) then bif (decide ((rd_Age t4.1 t4.2.2.1).1 ≥ t4.2.2.2.2.2.2.2.2)) then k0 (false, t4.2.2.2.1, t4.2.2.2.2.1, t4.2.2.2.2.2.1, t4.2.2.2.2.2.2.1, t4.2.2.2.2.2.2.2.1, t4.2.2.2.2.2.2.2.2) else again (t4.1, t4.2.1, (Go.IntKind.wrap .i64 (t4.2.2.1 + (1 : Int))), t4.2.2.2.1, t4.2.2.2.2.1, t4.2.2.2.2.2.1, t4.2.2.2.2.2.2.1, t4.2.2.2.2.2.2.2.1, t4.2.2.2.2.2.2.2.2) else none else none else k1 (t4.2.2.2.1, t4.2.2.2.2.1, t4.2.2.2.2.2.1, t4.2.2.2.2.2.2.1, t4.2.2.2.2.2.2.2.1, t4.2.2.2.2.2.2.2.2)
def L_impl_PoolOk_4 k0 k1 := iter (@S_impl_PoolOk_4 R k0 k1) FUEL
def F_impl_PoolOk (x : Qz47) : Option Bool :=
 Option.bind (F_impl_TreeOk (x.1, x.2.1)) fun r1 => Option.bind (bif (!r1) then some true else Option.bind (F_impl_AgesOk x.2.2.1) fun r3 => some (!r3)) fun u2 => Option.bind (bif u2 then some true else Option.bind (F_impl_CellsOk x.2.2.2.1) fun r5 => some (!r5)) fun u4 => Option.bind (bif u4 then some true else Option.bind (F_impl_within (x.2.2.2.2.2, (1 : Int), (61 : Int))) fun r7 => some (!r7)) fun u6 => bif u6 then some false else L_impl_PoolOk_4 (fun x8 => some x8.1) (fun x9 => Option.bind (F_impl_volsOk (x9.1, x9.2.1, x9.2.2.1, x9.2.2.2.1, x9.2.2.2.2.1, x9.2.2.2.2.2)) fun r10 => Option.bind (bif r10 then Option.bind (F_impl_keysFit (x9.1, x9.2.1, x9.2.2.1, x9.2.2.2.1, x9.2.2.2.2.1, x9.2.2.2.2.2)) fun r12 => some r12 else some false) fun u11 => some u11) (x.2.2.1, ((List.length x.2.2.1 : Nat) : Int), (0 : Int), x.1, x.2.1, x.2.2.1, x.2.2.2.1, x.2.2.2.2.1, x.2.2.2.2.2)
def f56Q : List QF := [q131, q132, q133, q134, q135, q136]
def f56e4_0 (t : Qz116) : St := ⟨.dead :: .box 1 0 :: dd 26 (v_Age t.1 :: vI t.2.1 :: vI t.2.2.1 :: dd 15 []), [(1, .box [v_i64 t.2.2.2.1, v_Node t.2.2.2.2.1, v_Age t.2.2.2.2.2.1, v_Cell t.2.2.2.2.2.2.1, v_Vol t.2.2.2.2.2.2.2.1, vI t.2.2.2.2.2.2.2.2])]⟩
def f56g4 : Gk T_impl_PoolOk_4 := fun κ => S_impl_PoolOk_4 (fun t => κ none ⟨.dead :: .box 1 0 :: vB t.1 :: dd 43 [], [(1, .box [v_i64 t.2.1, v_Node t.2.2.1, v_Age t.2.2.2.1, v_Cell t.2.2.2.2.1, v_Vol t.2.2.2.2.2.1, vI t.2.2.2.2.2.2])]⟩) (fun t => κ (some 0) ⟨.dead :: .box 1 0 :: dd 44 [], [(1, .box [v_i64 t.1, v_Node t.2.1, v_Age t.2.2.1, v_Cell t.2.2.2.1, v_Vol t.2.2.2.2.1, vI t.2.2.2.2.2])]⟩)
def f56P : Lp := lpC 4 (unG qz116 f56e4_0) @f56g4 lpN
theorem f56C4 : LF f56Q f56P 56 4 Tryz.f56 0 f56e4_0 @f56g4 fun t => t := fun R κ again t => by kernel_rfl
theorem f56k4 : LK f56Q f56P 56 Tryz.f56 0 := lkN (u := (unG qz116 f56e4_0)) (unG_ok fun t => by kernel_rfl) f56C4
theorem ev56 : EV f56Q f56P 56 Tryz.f56 sg56 qz47 [.bool] F_impl_PoolOk := fun x => by kernel_rfl
def q56 : QF := ⟨56, F_impl_PoolOk, okN (n := 1) Tryz.func56 ⟨f56k4, trivial⟩ ev56⟩
abbrev T_impl_joined_3 : Type := Qz117
def S_impl_joined_3 (k0 : List E_u8 → Option R) (again : T_impl_joined_3 → Option R) (t3 : T_impl_joined_3) : Option R :=
 bif (decide (t3.2.2.1 < t3.2.1)) then if (0 : Int) ≤ t3.2.2.1 then if t3.2.2.1 < ((List.length t3.1 : Nat) : Int) then if (List.length t3.2.2.2 + List.length (rd_s_u8 t3.1 t3.2.2.1)) * 1 < 140737488355328 then again (t3.1, t3.2.1, (Go.IntKind.wrap .i64 (t3.2.2.1 + (1 : Int))), (t3.2.2.2 ++ (rd_s_u8 t3.1 t3.2.2.1))) else none else none else none else k0 t3.2.2.2
def L_impl_joined_3 k0 := iter (@S_impl_joined_3 R k0) FUEL
def F_impl_joined (x : List E_s_u8) : Option (List E_u8) :=
 L_impl_joined_3 (fun x1 => some x1) (x, ((List.length x : Nat) : Int), (0 : Int), ([] : List E_u8))
def f137Q : List QF := []
def f137e3_0 (t : Qz117) : St := ⟨dd 3 (.own 10000000 :: dd 3 (v_s_u8 t.1 :: vI t.2.1 :: vI t.2.2.1 :: dd 8 [])), [(10000000, .root true 5 ts_u8 t.2.2.2)]⟩
def f137g3 : Gk T_impl_joined_3 := fun κ => S_impl_joined_3 (fun t => κ (some 0) ⟨dd 3 (.own 10000000 :: dd 14 []), [(10000000, .root true 5 ts_u8 t)]⟩)
def f137P : Lp := lpC 3 (unG qz117 f137e3_0) @f137g3 lpN
theorem f137C3 : LF f137Q f137P 137 3 Tryz.f137 0 f137e3_0 @f137g3 fun t => t := fun R κ again t => by kernel_rfl
theorem f137k3 : LK f137Q f137P 137 Tryz.f137 0 := lkN (u := (unG qz117 f137e3_0)) (unG_ok fun t => by kernel_rfl) f137C3
theorem ev137 : EV f137Q f137P 137 Tryz.f137 sg137 [(.sl 32 ts_s_u8)] [(.sl 5 ts_u8)] F_impl_joined := fun x => by kernel_rfl
def q137 : QF := ⟨137, F_impl_joined, okN (n := 1) Tryz.func137 ⟨f137k3, trivial⟩ ev137⟩
def F_impl_PutW (x : Qz4) : Option (List E_u8) :=
 Option.bind (F_impl_joined ([x.1, ([(Go.IntKind.wrap .u8 (Go.bits .and .i64 (Int.fdiv x.2 (2 ^ (min (Int.toNat (8 : Int)) (Go.IntKind.bits .i64)))) (255 : Int))), (Go.IntKind.wrap .u8 (Go.bits .and .i64 x.2 (255 : Int)))] : List E_u8)] : List E_s_u8)) fun r1 => some r1
theorem ev57 : EV [q137] lpN 57 Tryz.f57 sg57 qz4 [(.sl 5 ts_u8)] F_impl_PutW := fun x => by kernel_rfl
def q57 : QF := ⟨57, F_impl_PutW, okN (n := 0) Tryz.func57 trivial ev57⟩
def F_impl_PutText (x : Qz118) : Option (List E_u8) :=
 bif (decide (((ByteArray.size x.2 : Nat) : Int) > (60 : Int))) then Option.bind (F_impl_joined ([x.1] : List E_s_u8)) fun r1 => some r1 else Option.bind (F_impl_PutW (x.1, ((ByteArray.size x.2 : Nat) : Int))) fun r2 => if ByteArray.size x.2 < 140737488351232 then Option.bind (F_impl_joined ([r2, (bytesL x.2)] : List E_s_u8)) fun r3 => some r3 else none
theorem ev58 : EV [q57, q137] lpN 58 Tryz.f58 sg58 qz118 [(.sl 5 ts_u8)] F_impl_PutText := fun x => by kernel_rfl
def q58 : QF := ⟨58, F_impl_PutText, okN (n := 0) Tryz.func58 trivial ev58⟩
def F_impl_flag (x : Bool) : Option Int :=
 bif x then some (1 : Int) else some (0 : Int)
theorem ev59 : EV [] lpN 59 Tryz.f59 sg59 [.bool] [(.int .u8)] F_impl_flag := fun x => by kernel_rfl
def q59 : QF := ⟨59, F_impl_flag, okN (n := 0) Tryz.func59 trivial ev59⟩
def F_impl_PutKey (x : Qz119) : Option (List E_u8) :=
 Option.bind (F_impl_joined ([x.1] : List E_s_u8)) fun r1 => Option.bind (F_impl_KeyOk (x.2.1, x.2.2.1, x.2.2.2.1, x.2.2.2.2.1, x.2.2.2.2.2)) fun r2 => bif (!r2) then some r1 else if (List.length r1 + List.length ([(Go.IntKind.wrap .u8 x.2.1), (Go.IntKind.wrap .u8 x.2.2.1), (Go.IntKind.wrap .u8 x.2.2.2.1), (Go.IntKind.wrap .u8 x.2.2.2.2.1)] : List E_u8)) * 1 < 140737488355328 then Option.bind (F_impl_PutW ((r1 ++ ([(Go.IntKind.wrap .u8 x.2.1), (Go.IntKind.wrap .u8 x.2.2.1), (Go.IntKind.wrap .u8 x.2.2.2.1), (Go.IntKind.wrap .u8 x.2.2.2.2.1)] : List E_u8)), x.2.2.2.2.2)) fun r3 => some r3 else none
theorem ev60 : EV [q57, q137, q138] lpN 60 Tryz.f60 sg60 qz119 [(.sl 5 ts_u8)] F_impl_PutKey := fun x => by kernel_rfl
def q60 : QF := ⟨60, F_impl_PutKey, okN (n := 0) Tryz.func60 trivial ev60⟩
abbrev T_impl_PutPool_5 : Type := Qz120
def S_impl_PutPool_5 (k0 : Qz121 → Option R) (again : T_impl_PutPool_5 → Option R) (t5 : T_impl_PutPool_5) : Option R :=
 bif (decide (t5.2.2.1 < t5.2.1)) then if (0 : Int) ≤ t5.2.2.1 then if t5.2.2.1 < ((List.length t5.1 : Nat) : Int) then if (List.length t5.2.2.2.2.2.2.2.2.2 + List.length ([(Go.IntKind.wrap .u8 ((rd_Age t5.1 t5.2.2.1).1)), (Go.IntKind.wrap .u8 ((rd_Age t5.1 t5.2.2.1).2))] : List E_u8)) * 1 < 140737488355328 then again (t5.1, t5.2.1, (Go.IntKind.wrap .i64 (t5.2.2.1 + (1 : Int))), t5.2.2.2.1, t5.2.2.2.2.1, t5.2.2.2.2.2.1, t5.2.2.2.2.2.2.1, t5.2.2.2.2.2.2.2.1, t5.2.2.2.2.2.2.2.2.1, (t5.2.2.2.2.2.2.2.2.2 ++ ([(Go.IntKind.wrap .u8 ((rd_Age t5.1 t5.2.2.1).1)), (Go.IntKind.wrap .u8 ((rd_Age t5.1 t5.2.2.1).2))] : List E_u8))) else none else none else none else k0 (t5.2.2.2.1, t5.2.2.2.2.1, t5.2.2.2.2.2.1, t5.2.2.2.2.2.2.1, t5.2.2.2.2.2.2.2.1, t5.2.2.2.2.2.2.2.2.1, t5.2.2.2.2.2.2.2.2.2)
def L_impl_PutPool_5 k0 := iter (@S_impl_PutPool_5 R k0) FUEL
abbrev T_impl_PutPool_11 : Type := Qz122
def S_impl_PutPool_11 (k0 : Qz121 → Option R) (again : T_impl_PutPool_11 → Option R) (t11 : T_impl_PutPool_11) : Option R :=
 bif (decide (t11.2.2.1 < t11.2.1)) then if (0 : Int) ≤ t11.2.2.1 then if t11.2.2.1 < ((List.length t11.1 : Nat) : Int) then Option.bind (F_impl_PutText (t11.2.2.2.2.2.2.2.2.2, (rd_Vol t11.1 t11.2.2.1).1)) fun r4 => Option.bind (F_impl_flag ((rd_Vol t11.1 t11.2.2.1).2.2.2)) fun r5 => if (List.length r4 + List.length ([(Go.IntKind.wrap .u8 ((rd_Vol t11.1 t11.2.2.1).2.1)), (Go.IntKind.wrap .u8 ((rd_Vol t11.1 t11.2.2.1).2.2.1)), r5] : List E_u8)) * 1 < 140737488355328 then again (t11.1, t11.2.1, (Go.IntKind.wrap .i64 (t11.2.2.1 + (1 : Int))), t11.2.2.2.1, t11.2.2.2.2.1, t11.2.2.2.2.2.1, t11.2.2.2.2.2.2.1, t11.2.2.2.2.2.2.2.1, t11.2.2.2.2.2.2.2.2.1, (r4 ++ ([(Go.IntKind.wrap .u8 ((rd_Vol t11.1 t11.2.2.1).2.1)), (Go.IntKind.wrap .u8 ((rd_Vol t11.1 t11.2.2.1).2.2.1)), r5] : List E_u8))) else none else none else none else k0 (t11.2.2.2.1, t11.2.2.2.2.1, t11.2.2.2.2.2.1, t11.2.2.2.2.2.2.1, t11.2.2.2.2.2.2.2.1, t11.2.2.2.2.2.2.2.2.1, t11.2.2.2.2.2.2.2.2.2)
def L_impl_PutPool_11 k0 := iter (@S_impl_PutPool_11 R k0) FUEL
abbrev T_impl_PutPool_16 : Type := Qz123
def S_impl_PutPool_16 (k0 : Qz121 → Option R) (again : T_impl_PutPool_16 → Option R) (t16 : T_impl_PutPool_16) : Option R :=
 bif (decide (t16.2.2.1 < t16.2.1)) then if (0 : Int) ≤ t16.2.2.1 then if t16.2.2.1 < ((List.length t16.1 : Nat) : Int) then Option.bind (F_impl_PutW (t16.2.2.2.2.2.2.2.2.2, (rd_Cell t16.1 t16.2.2.1).1)) fun r7 => Option.bind (F_impl_flag ((rd_Cell t16.1 t16.2.2.1).2.1)) fun r8 => if (List.length r7 + List.length ([r8] : List E_u8)) * 1 < 140737488355328 then Option.bind (F_impl_PutW ((r7 ++ ([r8] : List E_u8)), (rd_Cell t16.1 t16.2.2.1).2.2)) fun r9 => again (t16.1, t16.2.1, (Go.IntKind.wrap .i64 (t16.2.2.1 + (1 : Int))), t16.2.2.2.1, t16.2.2.2.2.1, t16.2.2.2.2.2.1, t16.2.2.2.2.2.2.1, t16.2.2.2.2.2.2.2.1, t16.2.2.2.2.2.2.2.2.1, r9) else none else none else none else k0 (t16.2.2.2.1, t16.2.2.2.2.1, t16.2.2.2.2.2.1, t16.2.2.2.2.2.2.1, t16.2.2.2.2.2.2.2.1, t16.2.2.2.2.2.2.2.2.1, t16.2.2.2.2.2.2.2.2.2)
def L_impl_PutPool_16 k0 := iter (@S_impl_PutPool_16 R k0) FUEL
abbrev T_impl_PutPool_30 : Type := Qz124
def S_impl_PutPool_30 (k0 : Qz125 → Option R) (again : T_impl_PutPool_30 → Option R) (t30 : T_impl_PutPool_30) : Option R :=
 bif (decide (t30.2.2.2.2.2.2.2.2.1 < t30.2.2.2.2.2.2.2.1)) then if (0 : Int) ≤ t30.2.2.2.2.2.2.2.2.1 then if t30.2.2.2.2.2.2.2.2.1 < ((List.length t30.2.2.2.2.2.2.1 : Nat) : Int) then Option.bind (F_impl_PutKey (t30.2.2.2.2.2.2.2.2.2.2.2.2.2.2.2, (rd_Key t30.2.2.2.2.2.2.1 t30.2.2.2.2.2.2.2.2.1).1, (rd_Key t30.2.2.2.2.2.2.1 t30.2.2.2.2.2.2.2.2.1).2.1, (rd_Key t30.2.2.2.2.2.2.1 t30.2.2.2.2.2.2.2.2.1).2.2.1, (rd_Key t30.2.2.2.2.2.2.1 t30.2.2.2.2.2.2.2.2.1).2.2.2.1, (rd_Key t30.2.2.2.2.2.2.1 t30.2.2.2.2.2.2.2.2.1).2.2.2.2)) fun r12 => again (t30.1, t30.2.1, t30.2.2.1, t30.2.2.2.1, t30.2.2.2.2.1, t30.2.2.2.2.2.1, t30.2.2.2.2.2.2.1, t30.2.2.2.2.2.2.2.1, (Go.IntKind.wrap .i64 (t30.2.2.2.2.2.2.2.2.1 + (1 : Int))), t30.2.2.2.2.2.2.2.2.2.1, t30.2.2.2.2.2.2.2.2.2.2.1, t30.2.2.2.2.2.2.2.2.2.2.2.1, t30.2.2.2.2.2.2.2.2.2.2.2.2.1, t30.2.2.2.2.2.2.2.2.2.2.2.2.2.1, t30.2.2.2.2.2.2.2.2.2.2.2.2.2.2.1, r12) else none else none else k0 (t30.1, t30.2.1, t30.2.2.1, t30.2.2.2.1, t30.2.2.2.2.1, t30.2.2.2.2.2.1, t30.2.2.2.2.2.2.2.2.2.1, t30.2.2.2.2.2.2.2.2.2.2.1, t30.2.2.2.2.2.2.2.2.2.2.2.1, t30.2.2.2.2.2.2.2.2.2.2.2.2.1, t30.2.2.2.2.2.2.2.2.2.2.2.2.2.1, t30.2.2.2.2.2.2.2.2.2.2.2.2.2.2.1, t30.2.2.2.2.2.2.2.2.2.2.2.2.2.2.2)
def L_impl_PutPool_30 k0 := iter (@S_impl_PutPool_30 R k0) FUEL
abbrev T_impl_PutPool_26 : Type := Qz125
def S_impl_PutPool_26 (k0 : Qz126 → Option R) (again : T_impl_PutPool_26 → Option R) (t26 : T_impl_PutPool_26) : Option R :=
 bif (decide (t26.2.2.2.2.2.1 < t26.2.2.2.2.1)) then if (0 : Int) ≤ t26.2.2.2.2.2.1 then if t26.2.2.2.2.2.1 < ((List.length t26.2.2.2.1 : Nat) : Int) then if (List.length t26.2.2.2.2.2.2.2.2.2.2.2.2 + List.length ([(Go.IntKind.wrap .u8 ((List.length (rd_s_Key t26.2.2.2.1 t26.2.2.2.2.2.1) : Nat) : Int))] : List E_u8)) * 1 < 140737488355328 then L_impl_PutPool_30 (fun x13 => again (x13.1, x13.2.1, x13.2.2.1, x13.2.2.2.1, x13.2.2.2.2.1, (Go.IntKind.wrap .i64 (x13.2.2.2.2.2.1 + (1 : Int))), x13.2.2.2.2.2.2.1, x13.2.2.2.2.2.2.2.1, x13.2.2.2.2.2.2.2.2.1, x13.2.2.2.2.2.2.2.2.2.1, x13.2.2.2.2.2.2.2.2.2.2.1, x13.2.2.2.2.2.2.2.2.2.2.2.1, x13.2.2.2.2.2.2.2.2.2.2.2.2)) (t26.1, t26.2.1, t26.2.2.1, t26.2.2.2.1, t26.2.2.2.2.1, t26.2.2.2.2.2.1, (rd_s_Key t26.2.2.2.1 t26.2.2.2.2.2.1), ((List.length (rd_s_Key t26.2.2.2.1 t26.2.2.2.2.2.1) : Nat) : Int), (0 : Int), t26.2.2.2.2.2.2.1, t26.2.2.2.2.2.2.2.1, t26.2.2.2.2.2.2.2.2.1, t26.2.2.2.2.2.2.2.2.2.1, t26.2.2.2.2.2.2.2.2.2.2.1, t26.2.2.2.2.2.2.2.2.2.2.2.1, (t26.2.2.2.2.2.2.2.2.2.2.2.2 ++ ([(Go.IntKind.wrap .u8 ((List.length (rd_s_Key t26.2.2.2.1 t26.2.2.2.2.2.1) : Nat) : Int))] : List E_u8))) else none else none else none else k0 (t26.1, t26.2.1, t26.2.2.1, t26.2.2.2.2.2.2.1, t26.2.2.2.2.2.2.2.1, t26.2.2.2.2.2.2.2.2.1, t26.2.2.2.2.2.2.2.2.2.1, t26.2.2.2.2.2.2.2.2.2.2.1, t26.2.2.2.2.2.2.2.2.2.2.2.1, t26.2.2.2.2.2.2.2.2.2.2.2.2)
def L_impl_PutPool_26 k0 := iter (@S_impl_PutPool_26 R k0) FUEL
abbrev T_impl_PutPool_22 : Type := Qz126
def S_impl_PutPool_22 (k0 : List E_u8 → Option R) (again : T_impl_PutPool_22 → Option R) (t22 : T_impl_PutPool_22) : Option R :=
 bif (decide (t22.2.2.1 < t22.2.1)) then if (0 : Int) ≤ t22.2.2.1 then if t22.2.2.1 < ((List.length t22.1 : Nat) : Int) then if (0 : Int) ≤ t22.2.2.1 then if t22.2.2.1 < ((List.length t22.2.2.2.1 : Nat) : Int) then Option.bind (F_impl_PutW (t22.2.2.2.2.2.2.2.2.2, (rd_i64 t22.2.2.2.1 t22.2.2.1))) fun r11 => if (List.length r11 + List.length ([(Go.IntKind.wrap .u8 ((List.length (rd_Node t22.1 t22.2.2.1) : Nat) : Int))] : List E_u8)) * 1 < 140737488355328 then L_impl_PutPool_26 (fun x14 => again (x14.1, x14.2.1, (Go.IntKind.wrap .i64 (x14.2.2.1 + (1 : Int))), x14.2.2.2.1, x14.2.2.2.2.1, x14.2.2.2.2.2.1, x14.2.2.2.2.2.2.1, x14.2.2.2.2.2.2.2.1, x14.2.2.2.2.2.2.2.2.1, x14.2.2.2.2.2.2.2.2.2)) (t22.1, t22.2.1, t22.2.2.1, (rd_Node t22.1 t22.2.2.1), ((List.length (rd_Node t22.1 t22.2.2.1) : Nat) : Int), (0 : Int), t22.2.2.2.1, t22.2.2.2.2.1, t22.2.2.2.2.2.1, t22.2.2.2.2.2.2.1, t22.2.2.2.2.2.2.2.1, t22.2.2.2.2.2.2.2.2.1, (r11 ++ ([(Go.IntKind.wrap .u8 ((List.length (rd_Node t22.1 t22.2.2.1) : Nat) : Int))] : List E_u8))) else none else none else none else none else none else k0 t22.2.2.2.2.2.2.2.2.2
def L_impl_PutPool_22 k0 := iter (@S_impl_PutPool_22 R k0) FUEL
def F_impl_PutPool (x : Qz47) : Option (List E_u8) :=
 Option.bind (F_impl_PoolOk (x.1, x.2.1, x.2.2.1, x.2.2.2.1, x.2.2.2.2.1, x.2.2.2.2.2)) fun r1 => bif (!r1) then some ([] : List E_u8) else Option.bind (F_impl_PutW (([] : List E_u8), x.2.2.2.2.2)) fun r2 => if (List.length r2 + List.length ([(Go.IntKind.wrap .u8 ((List.length x.2.2.1 : Nat) : Int))] : List E_u8)) * 1 < 140737488355328 then L_impl_PutPool_5 (fun x3 => if (List.length x3.2.2.2.2.2.2 + List.length ([(Go.IntKind.wrap .u8 ((List.length x3.2.2.2.2.1 : Nat) : Int))] : List E_u8)) * 1 < 140737488355328 then L_impl_PutPool_11 (fun x6 => L_impl_PutPool_16 (fun x10 => if (List.length x10.2.2.2.2.2.2 + List.length ([(Go.IntKind.wrap .u8 ((List.length x10.2.1 : Nat) : Int))] : List E_u8)) * 1 < 140737488355328 then L_impl_PutPool_22 (fun x15 => some x15) (x10.2.1, ((List.length x10.2.1 : Nat) : Int), (0 : Int), x10.1, x10.2.1, x10.2.2.1, x10.2.2.2.1, x10.2.2.2.2.1, x10.2.2.2.2.2.1, (x10.2.2.2.2.2.2 ++ ([(Go.IntKind.wrap .u8 ((List.length x10.2.1 : Nat) : Int))] : List E_u8))) else none) (x6.2.2.2.1, ((List.length x6.2.2.2.1 : Nat) : Int), (0 : Int), x6.1, x6.2.1, x6.2.2.1, x6.2.2.2.1, x6.2.2.2.2.1, x6.2.2.2.2.2.1, x6.2.2.2.2.2.2)) (x3.2.2.2.2.1, ((List.length x3.2.2.2.2.1 : Nat) : Int), (0 : Int), x3.1, x3.2.1, x3.2.2.1, x3.2.2.2.1, x3.2.2.2.2.1, x3.2.2.2.2.2.1, (x3.2.2.2.2.2.2 ++ ([(Go.IntKind.wrap .u8 ((List.length x3.2.2.2.2.1 : Nat) : Int))] : List E_u8))) else none) (x.2.2.1, ((List.length x.2.2.1 : Nat) : Int), (0 : Int), x.1, x.2.1, x.2.2.1, x.2.2.2.1, x.2.2.2.2.1, x.2.2.2.2.2, (r2 ++ ([(Go.IntKind.wrap .u8 ((List.length x.2.2.1 : Nat) : Int))] : List E_u8))) else none
def f13Q : List QF := [q56, q57, q58, q59, q60]
def f13e5_0 (t : Qz120) : St := ⟨.dead :: .box 1 0 :: .dead :: .own 10000000 :: dd 25 (v_Age t.1 :: vI t.2.1 :: vI t.2.2.1 :: dd 120 []), [(1, .box [v_i64 t.2.2.2.1, v_Node t.2.2.2.2.1, v_Age t.2.2.2.2.2.1, v_Cell t.2.2.2.2.2.2.1, v_Vol t.2.2.2.2.2.2.2.1, vI t.2.2.2.2.2.2.2.2.1]), (10000000, .root true 5 ts_u8 t.2.2.2.2.2.2.2.2.2)]⟩
def f13g5 : Gk T_impl_PutPool_5 := fun κ => S_impl_PutPool_5 (fun t => κ (some 0) ⟨.dead :: .box 1 0 :: .dead :: .own 10000000 :: dd 148 [], [(1, .box [v_i64 t.1, v_Node t.2.1, v_Age t.2.2.1, v_Cell t.2.2.2.1, v_Vol t.2.2.2.2.1, vI t.2.2.2.2.2.1]), (10000000, .root true 5 ts_u8 t.2.2.2.2.2.2)]⟩)
def f13e11_0 (t : Qz122) : St := ⟨.dead :: .box 1 0 :: .dead :: .own 10000000 :: dd 49 (v_Vol t.1 :: vI t.2.1 :: vI t.2.2.1 :: dd 96 []), [(1, .box [v_i64 t.2.2.2.1, v_Node t.2.2.2.2.1, v_Age t.2.2.2.2.2.1, v_Cell t.2.2.2.2.2.2.1, v_Vol t.2.2.2.2.2.2.2.1, vI t.2.2.2.2.2.2.2.2.1]), (10000000, .root true 5 ts_u8 t.2.2.2.2.2.2.2.2.2)]⟩
def f13g11 : Gk T_impl_PutPool_11 := fun κ => S_impl_PutPool_11 (fun t => κ (some 2) ⟨.dead :: .box 1 0 :: .dead :: .own 10000000 :: dd 148 [], [(1, .box [v_i64 t.1, v_Node t.2.1, v_Age t.2.2.1, v_Cell t.2.2.2.1, v_Vol t.2.2.2.2.1, vI t.2.2.2.2.2.1]), (10000000, .root true 5 ts_u8 t.2.2.2.2.2.2)]⟩)
def f13e16_0 (t : Qz123) : St := ⟨.dead :: .box 1 0 :: .dead :: .own 10000000 :: dd 72 (v_Cell t.1 :: vI t.2.1 :: vI t.2.2.1 :: dd 73 []), [(1, .box [v_i64 t.2.2.2.1, v_Node t.2.2.2.2.1, v_Age t.2.2.2.2.2.1, v_Cell t.2.2.2.2.2.2.1, v_Vol t.2.2.2.2.2.2.2.1, vI t.2.2.2.2.2.2.2.2.1]), (10000000, .root true 5 ts_u8 t.2.2.2.2.2.2.2.2.2)]⟩
def f13g16 : Gk T_impl_PutPool_16 := fun κ => S_impl_PutPool_16 (fun t => κ (some 4) ⟨.dead :: .box 1 0 :: .dead :: .own 10000000 :: dd 148 [], [(1, .box [v_i64 t.1, v_Node t.2.1, v_Age t.2.2.1, v_Cell t.2.2.2.1, v_Vol t.2.2.2.2.1, vI t.2.2.2.2.2.1]), (10000000, .root true 5 ts_u8 t.2.2.2.2.2.2)]⟩)
def f13e30_0 (t : Qz124) : St := ⟨.dead :: .box 1 0 :: .dead :: .own 10000000 :: dd 101 (v_Node t.1 :: vI t.2.1 :: vI t.2.2.1 :: dd 19 (v_s_Key t.2.2.2.1 :: vI t.2.2.2.2.1 :: vI t.2.2.2.2.2.1 :: dd 9 (v_Key t.2.2.2.2.2.2.1 :: vI t.2.2.2.2.2.2.2.1 :: vI t.2.2.2.2.2.2.2.2.1 :: dd 10 []))), [(1, .box [v_i64 t.2.2.2.2.2.2.2.2.2.1, v_Node t.2.2.2.2.2.2.2.2.2.2.1, v_Age t.2.2.2.2.2.2.2.2.2.2.2.1, v_Cell t.2.2.2.2.2.2.2.2.2.2.2.2.1, v_Vol t.2.2.2.2.2.2.2.2.2.2.2.2.2.1, vI t.2.2.2.2.2.2.2.2.2.2.2.2.2.2.1]), (10000000, .root true 5 ts_u8 t.2.2.2.2.2.2.2.2.2.2.2.2.2.2.2)]⟩
def f13g30 : Gk T_impl_PutPool_30 := fun κ => S_impl_PutPool_30 (fun t => κ (some 10) ⟨.dead :: .box 1 0 :: .dead :: .own 10000000 :: dd 101 (v_Node t.1 :: vI t.2.1 :: vI t.2.2.1 :: dd 19 (v_s_Key t.2.2.2.1 :: vI t.2.2.2.2.1 :: vI t.2.2.2.2.2.1 :: dd 22 [])), [(1, .box [v_i64 t.2.2.2.2.2.2.1, v_Node t.2.2.2.2.2.2.2.1, v_Age t.2.2.2.2.2.2.2.2.1, v_Cell t.2.2.2.2.2.2.2.2.2.1, v_Vol t.2.2.2.2.2.2.2.2.2.2.1, vI t.2.2.2.2.2.2.2.2.2.2.2.1]), (10000000, .root true 5 ts_u8 t.2.2.2.2.2.2.2.2.2.2.2.2)]⟩)
def f13e26_0 (t : Qz125) : St := ⟨.dead :: .box 1 0 :: .dead :: .own 10000000 :: dd 101 (v_Node t.1 :: vI t.2.1 :: vI t.2.2.1 :: dd 19 (v_s_Key t.2.2.2.1 :: vI t.2.2.2.2.1 :: vI t.2.2.2.2.2.1 :: dd 22 [])), [(1, .box [v_i64 t.2.2.2.2.2.2.1, v_Node t.2.2.2.2.2.2.2.1, v_Age t.2.2.2.2.2.2.2.2.1, v_Cell t.2.2.2.2.2.2.2.2.2.1, v_Vol t.2.2.2.2.2.2.2.2.2.2.1, vI t.2.2.2.2.2.2.2.2.2.2.2.1]), (10000000, .root true 5 ts_u8 t.2.2.2.2.2.2.2.2.2.2.2.2)]⟩
def f13g26 : Gk T_impl_PutPool_26 := fun κ => S_impl_PutPool_26 (fun t => κ (some 8) ⟨.dead :: .box 1 0 :: .dead :: .own 10000000 :: dd 101 (v_Node t.1 :: vI t.2.1 :: vI t.2.2.1 :: dd 44 []), [(1, .box [v_i64 t.2.2.2.1, v_Node t.2.2.2.2.1, v_Age t.2.2.2.2.2.1, v_Cell t.2.2.2.2.2.2.1, v_Vol t.2.2.2.2.2.2.2.1, vI t.2.2.2.2.2.2.2.2.1]), (10000000, .root true 5 ts_u8 t.2.2.2.2.2.2.2.2.2)]⟩)
def f13e22_0 (t : Qz126) : St := ⟨.dead :: .box 1 0 :: .dead :: .own 10000000 :: dd 101 (v_Node t.1 :: vI t.2.1 :: vI t.2.2.1 :: dd 44 []), [(1, .box [v_i64 t.2.2.2.1, v_Node t.2.2.2.2.1, v_Age t.2.2.2.2.2.1, v_Cell t.2.2.2.2.2.2.1, v_Vol t.2.2.2.2.2.2.2.1, vI t.2.2.2.2.2.2.2.2.1]), (10000000, .root true 5 ts_u8 t.2.2.2.2.2.2.2.2.2)]⟩
def f13g22 : Gk T_impl_PutPool_22 := fun κ => S_impl_PutPool_22 (fun t => κ (some 6) ⟨dd 3 (.own 10000000 :: dd 148 []), [(10000000, .root true 5 ts_u8 t)]⟩)
def f13P : Lp := lpC 22 (unG qz126 f13e22_0) @f13g22 (lpC 26 (unG qz125 f13e26_0) @f13g26 (lpC 30 (unG qz124 f13e30_0) @f13g30 (lpC 16 (unG qz123 f13e16_0) @f13g16 (lpC 11 (unG qz122 f13e11_0) @f13g11 (lpC 5 (unG qz120 f13e5_0) @f13g5 lpN)))))
theorem f13C5 : LF f13Q f13P 13 5 Tryz.f13 0 f13e5_0 @f13g5 fun t => t := fun R κ again t => by kernel_rfl
theorem f13k5 : LK f13Q f13P 13 Tryz.f13 0 := lkN (u := (unG qz120 f13e5_0)) (unG_ok fun t => by kernel_rfl) f13C5
theorem f13C11 : LF f13Q f13P 13 11 Tryz.f13 1 f13e11_0 @f13g11 fun t => t := fun R κ again t => by kernel_rfl
theorem f13k11 : LK f13Q f13P 13 Tryz.f13 1 := lkN (u := (unG qz122 f13e11_0)) (unG_ok fun t => by kernel_rfl) f13C11
theorem f13C16 : LF f13Q f13P 13 16 Tryz.f13 2 f13e16_0 @f13g16 fun t => t := fun R κ again t => by kernel_rfl
theorem f13k16 : LK f13Q f13P 13 Tryz.f13 2 := lkN (u := (unG qz123 f13e16_0)) (unG_ok fun t => by kernel_rfl) f13C16
theorem f13C30 : LF f13Q f13P 13 30 Tryz.f13 5 f13e30_0 @f13g30 fun t => t := fun R κ again t => by kernel_rfl
theorem f13k30 : LK f13Q f13P 13 Tryz.f13 5 := lkN (u := (unG qz124 f13e30_0)) (unG_ok fun t => by kernel_rfl) f13C30
theorem f13C26 : LF f13Q f13P 13 26 Tryz.f13 4 f13e26_0 @f13g26 fun t => t := fun R κ again t => by kernel_rfl
theorem f13k26 : LK f13Q f13P 13 Tryz.f13 4 := lkN (u := (unG qz125 f13e26_0)) (unG_ok fun t => by kernel_rfl) f13C26
theorem f13C22 : LF f13Q f13P 13 22 Tryz.f13 3 f13e22_0 @f13g22 fun t => t := fun R κ again t => by kernel_rfl
theorem f13k22 : LK f13Q f13P 13 Tryz.f13 3 := lkN (u := (unG qz126 f13e22_0)) (unG_ok fun t => by kernel_rfl) f13C22
theorem ev13 : EV f13Q f13P 13 Tryz.f13 sg13 qz47 [(.sl 5 ts_u8)] F_impl_PutPool := fun x => by kernel_rfl
def q13 : QF := ⟨13, F_impl_PutPool, okN (n := 6) Tryz.func13 ⟨f13k5, f13k11, f13k16, f13k22, f13k26, f13k30, trivial⟩ ev13⟩
def F_impl_GetW (x : Qz4) : Option Qz56 :=
 Option.bind (bif (decide (x.2 < (0 : Int))) then some true else some (decide (x.2 > (Go.IntKind.wrap .i64 (((List.length x.1 : Nat) : Int) - (2 : Int)))))) fun u1 => bif u1 then some ((0 : Int), (0 : Int), false) else if (0 : Int) ≤ x.2 then if x.2 < ((List.length x.1 : Nat) : Int) then if (0 : Int) ≤ (Go.IntKind.wrap .i64 (x.2 + (1 : Int))) then if (Go.IntKind.wrap .i64 (x.2 + (1 : Int))) < ((List.length x.1 : Nat) : Int) then some ((Go.bits .or .i64 (Go.IntKind.wrap .i64 ((Go.IntKind.wrap .i64 (rd_u8 x.1 x.2)) * 2 ^ (min (Int.toNat (8 : Int)) (Go.IntKind.bits .i64)))) (Go.IntKind.wrap .i64 (rd_u8 x.1 (Go.IntKind.wrap .i64 (x.2 + (1 : Int)))))), (Go.IntKind.wrap .i64 (x.2 + (2 : Int))), true) else none else none else none else none
theorem ev218 : EV [] lpN 218 Tryz.f218 sg218 qz4 qz56 F_impl_GetW := fun x => by kernel_rfl
def q218 : QF := ⟨218, F_impl_GetW, okN (n := 0) Tryz.func218 trivial ev218⟩
def F_impl_reader_word (x : Qz53) : Option Qz54 :=
 Option.bind (F_impl_GetW (x.1, x.2.1)) fun r1 => Option.bind (bif x.2.2 then some true else some (!r1.2.2)) fun u2 => bif u2 then some ((0 : Int), x.1, x.2.1, true) else some (r1.1, x.1, r1.2.1, x.2.2)
theorem ev156 : EV [q218] lpN 156 Tryz.f156 sg156 qz53 qz54 F_impl_reader_word := fun x => by kernel_rfl
def q156 : QF := ⟨156, F_impl_reader_word, okN (n := 0) Tryz.func156 trivial ev156⟩
def F_impl_reader_one (x : Qz53) : Option Qz54 :=
 Option.bind (bif x.2.2 then some true else some (decide (x.2.1 < (0 : Int)))) fun u1 => Option.bind (bif u1 then some true else some (decide (x.2.1 ≥ ((List.length x.1 : Nat) : Int)))) fun u2 => bif u2 then some ((0 : Int), x.1, x.2.1, true) else if (0 : Int) ≤ (Go.IntKind.wrap .i64 ((Go.IntKind.wrap .i64 (x.2.1 + (1 : Int))) - (1 : Int))) then if (Go.IntKind.wrap .i64 ((Go.IntKind.wrap .i64 (x.2.1 + (1 : Int))) - (1 : Int))) < ((List.length x.1 : Nat) : Int) then some ((Go.IntKind.wrap .i64 (rd_u8 x.1 (Go.IntKind.wrap .i64 ((Go.IntKind.wrap .i64 (x.2.1 + (1 : Int))) - (1 : Int))))), x.1, (Go.IntKind.wrap .i64 (x.2.1 + (1 : Int))), x.2.2) else none else none
theorem ev157 : EV [] lpN 157 Tryz.f157 sg157 qz53 qz54 F_impl_reader_one := fun x => by kernel_rfl
def q157 : QF := ⟨157, F_impl_reader_one, okN (n := 0) Tryz.func157 trivial ev157⟩
def F_impl_GetText (x : Qz4) : Option Qz57 :=
 Option.bind (F_impl_GetW (x.1, x.2)) fun r1 => Option.bind (bif (!r1.2.2) then some true else some (decide (r1.1 > (60 : Int)))) fun u2 => Option.bind (bif u2 then some true else some (decide (r1.1 > (Go.IntKind.wrap .i64 (((List.length x.1 : Nat) : Int) - r1.2.1))))) fun u3 => bif u3 then some ({ data := #[] }, (0 : Int), false) else if (0 : Int) ≤ r1.2.1 then if r1.2.1 ≤ (Go.IntKind.wrap .i64 (r1.2.1 + r1.1)) then if (Go.IntKind.wrap .i64 (r1.2.1 + r1.1)) ≤ ((List.length x.1 : Nat) : Int) then some ((textOf (List.drop (Int.toNat r1.2.1) (List.take (Int.toNat (Go.IntKind.wrap .i64 (r1.2.1 + r1.1))) x.1))), (Go.IntKind.wrap .i64 (r1.2.1 + r1.1)), true) else none else none else none
theorem ev220 : EV [q218] lpN 220 Tryz.f220 sg220 qz4 qz57 F_impl_GetText := fun x => by kernel_rfl
def q220 : QF := ⟨220, F_impl_GetText, okN (n := 0) Tryz.func220 trivial ev220⟩
def F_impl_reader_text (x : Qz53) : Option Qz127 :=
 Option.bind (F_impl_GetText (x.1, x.2.1)) fun r1 => Option.bind (bif x.2.2 then some true else some (!r1.2.2)) fun u2 => bif u2 then some ({ data := #[] }, x.1, x.2.1, true) else some (r1.1, x.1, r1.2.1, x.2.2)
theorem ev165 : EV [q220] lpN 165 Tryz.f165 sg165 qz53 qz127 F_impl_reader_text := fun x => by kernel_rfl
def q165 : QF := ⟨165, F_impl_reader_text, okN (n := 0) Tryz.func165 trivial ev165⟩
def F_impl_reader_flag (x : Qz53) : Option Qz55 :=
 Option.bind (F_impl_reader_one (x.1, x.2.1, x.2.2)) fun r1 => bif (decide (r1.1 > (1 : Int))) then some ((r1.1 == (1 : Int)), r1.2.1, r1.2.2.1, true) else some ((r1.1 == (1 : Int)), r1.2.1, r1.2.2.1, r1.2.2.2)
theorem ev166 : EV [q157] lpN 166 Tryz.f166 sg166 qz53 qz55 F_impl_reader_flag := fun x => by kernel_rfl
def q166 : QF := ⟨166, F_impl_reader_flag, okN (n := 0) Tryz.func166 trivial ev166⟩
def F_impl_reader_key (x : Qz53) : Option Qz128 :=
 Option.bind (F_impl_reader_one (x.1, x.2.1, x.2.2)) fun r1 => Option.bind (F_impl_reader_one (r1.2.1, r1.2.2.1, r1.2.2.2)) fun r2 => Option.bind (F_impl_reader_one (r2.2.1, r2.2.2.1, r2.2.2.2)) fun r3 => Option.bind (F_impl_reader_one (r3.2.1, r3.2.2.1, r3.2.2.2)) fun r4 => Option.bind (F_impl_reader_word (r4.2.1, r4.2.2.1, r4.2.2.2)) fun r5 => Option.bind (bif r5.2.2.2 then some true else Option.bind (F_impl_KeyOk (r1.1, r2.1, r3.1, r4.1, r5.1)) fun r7 => some (!r7)) fun u6 => bif u6 then some ((0 : Int), (0 : Int), (0 : Int), (0 : Int), (0 : Int), r5.2.1, r5.2.2.1, true) else some (r1.1, r2.1, r3.1, r4.1, r5.1, r5.2.1, r5.2.2.1, r5.2.2.2)
theorem ev221 : EV [q138, q156, q157] lpN 221 Tryz.f221 sg221 qz53 qz128 F_impl_reader_key := fun x => by kernel_rfl
def q221 : QF := ⟨221, F_impl_reader_key, okN (n := 0) Tryz.func221 trivial ev221⟩
abbrev T_impl_reader_node_8 : Type := Qz129 ⊕ Qz130
def S_impl_reader_node_8 (k0 : Qz131 → Option R) (k1 : Qz132 → Option R) (again : T_impl_reader_node_8 → Option R) : T_impl_reader_node_8 → Option R
 | .inl t8 => bif (decide (t8.2.2.2.1 < t8.2.2.1)) then Option.bind (F_impl_reader_key (t8.2.2.2.2.1, t8.2.2.2.2.2.1, t8.2.2.2.2.2.2.1)) fun r8 => if (List.length t8.2.2.2.2.2.2.2 + List.length ([(r8.1, r8.2.1, r8.2.2.1, r8.2.2.2.1, r8.2.2.2.2.1)] : List E_Key)) * 40 < 140737488355328 then again (Sum.inl (t8.1, t8.2.1, t8.2.2.1, (Go.IntKind.wrap .i64 (t8.2.2.2.1 + (1 : Int))), r8.2.2.2.2.2.1, r8.2.2.2.2.2.2.1, r8.2.2.2.2.2.2.2, (t8.2.2.2.2.2.2.2 ++ ([(r8.1, r8.2.1, r8.2.2.1, r8.2.2.2.1, r8.2.2.2.2.1)] : List E_Key)))) else none else k0 (t8.1, t8.2.1, t8.2.2.2.2.1, t8.2.2.2.2.2.1, t8.2.2.2.2.2.2.1, t8.2.2.2.2.2.2.2)
 | .inr t8 => bif (decide (t8.2.2.2.1 < t8.2.2.1)) then Option.bind (F_impl_reader_key (t8.2.2.2.2.1, t8.2.2.2.2.2.1, t8.2.2.2.2.2.2.1)) fun r9 => if (List.length t8.2.2.2.2.2.2.2.1 + List.length ([(r9.1, r9.2.1, r9.2.2.1, r9.2.2.2.1, r9.2.2.2.2.1)] : List E_Key)) * 40 < 140737488355328 then again (Sum.inr (t8.1, t8.2.1, t8.2.2.1, (Go.IntKind.wrap .i64 (t8.2.2.2.1 + (1 : Int))), r9.2.2.2.2.2.1, r9.2.2.2.2.2.2.1, r9.2.2.2.2.2.2.2, (t8.2.2.2.2.2.2.2.1 ++ ([(r9.1, r9.2.1, r9.2.2.1, r9.2.2.2.1, r9.2.2.2.2.1)] : List E_Key)), t8.2.2.2.2.2.2.2.2)) else none else k1 (t8.1, t8.2.1, t8.2.2.2.2.1, t8.2.2.2.2.2.1, t8.2.2.2.2.2.2.1, t8.2.2.2.2.2.2.2.1, t8.2.2.2.2.2.2.2.2)
def L_impl_reader_node_8 k0 k1 := iter (@S_impl_reader_node_8 R k0 k1) FUEL
abbrev T_impl_reader_node_4 : Type := Qz133 ⊕ Qz134
def S_impl_reader_node_4 (k0 : Qz53 → Option R) (k1 : Qz64 → Option R) (again : T_impl_reader_node_4 → Option R) : T_impl_reader_node_4 → Option R
 | .inl t4 => bif (decide (t4.2.1 < t4.1)) then Option.bind (F_impl_reader_one (t4.2.2.1, t4.2.2.2.1, t4.2.2.2.2)) fun r2 => L_impl_reader_node_8 (fun x5 => if List.length ([x5.2.2.2.2.2] : List E_s_Key) * 24 < 140737488355328 then again (Sum.inr (x5.1, (Go.IntKind.wrap .i64 (x5.2.1 + (1 : Int))), x5.2.2.1, x5.2.2.2.1, x5.2.2.2.2.1, ([x5.2.2.2.2.2] : List E_s_Key))) else none) (fun x6 => if (List.length x6.2.2.2.2.2.2 + List.length ([x6.2.2.2.2.2.1] : List E_s_Key)) * 24 < 140737488355328 then again (Sum.inr (x6.1, (Go.IntKind.wrap .i64 (x6.2.1 + (1 : Int))), x6.2.2.1, x6.2.2.2.1, x6.2.2.2.2.1, (x6.2.2.2.2.2.2 ++ ([x6.2.2.2.2.2.1] : List E_s_Key)))) else none) (Sum.inl (t4.1, t4.2.1, r2.1, (0 : Int), r2.2.1, r2.2.2.1, r2.2.2.2, ([] : List E_Key))) else k0 (t4.2.2.1, t4.2.2.2.1, t4.2.2.2.2)
 | .inr t4 => bif (decide (t4.2.1 < t4.1)) then Option.bind (F_impl_reader_one (t4.2.2.1, t4.2.2.2.1, t4.2.2.2.2.1)) fun r7 => L_impl_reader_node_8 (fun x10 => if List.length ([x10.2.2.2.2.2] : List E_s_Key) * 24 < 140737488355328 then again (Sum.inr (x10.1, (Go.IntKind.wrap .i64 (x10.2.1 + (1 : Int))), x10.2.2.1, x10.2.2.2.1, x10.2.2.2.2.1, ([x10.2.2.2.2.2] : List E_s_Key))) else none) (fun x11 => if (List.length x11.2.2.2.2.2.2 + List.length ([x11.2.2.2.2.2.1] : List E_s_Key)) * 24 < 140737488355328 then again (Sum.inr (x11.1, (Go.IntKind.wrap .i64 (x11.2.1 + (1 : Int))), x11.2.2.1, x11.2.2.2.1, x11.2.2.2.2.1, (x11.2.2.2.2.2.2 ++ ([x11.2.2.2.2.2.1] : List E_s_Key)))) else none) (Sum.inr (t4.1, t4.2.1, r7.1, (0 : Int), r7.2.1, r7.2.2.1, r7.2.2.2, ([] : List E_Key), t4.2.2.2.2.2)) else k1 (t4.2.2.1, t4.2.2.2.1, t4.2.2.2.2.1, t4.2.2.2.2.2)
def L_impl_reader_node_4 k0 k1 := iter (@S_impl_reader_node_4 R k0 k1) FUEL
def F_impl_reader_node (x : Qz53) : Option Qz65 :=
 Option.bind (F_impl_reader_one (x.1, x.2.1, x.2.2)) fun r1 => L_impl_reader_node_4 (fun x12 => some (([] : List E_s_Key), x12.1, x12.2.1, x12.2.2)) (fun x13 => some (x13.2.2.2, x13.1, x13.2.1, x13.2.2.1)) (Sum.inl (r1.1, (0 : Int), r1.2.1, r1.2.2.1, r1.2.2.2))
def f167Q : List QF := [q157, q221]
def f167e8_0 (t : Qz129) : St := ⟨.box 900 0 :: .dead :: .box 2 0 :: .box 3 0 :: .dead :: .own 10000000 :: dd 5 (vI t.1 :: vI t.2.1 :: dd 4 (vI t.2.2.1 :: vI t.2.2.2.1 :: dd 16 [])), [(900, .box [v_u8 t.2.2.2.2.1, vI t.2.2.2.2.2.1, vB t.2.2.2.2.2.2.1]), (2, .box [.nils]), (3, .box [.nils]), (10000000, .root true 106 ts_Key t.2.2.2.2.2.2.2)]⟩
theorem f167v8_0 : ∀ s t, unG qz129 f167e8_0 s = some t → f167e8_0 t = s := unG_ok fun t => by kernel_rfl
def f167e8_1 (t : Qz130) : St := ⟨.box 900 0 :: .dead :: .box 2 0 :: .box 3 0 :: .dead :: .own 10000000 :: dd 5 (vI t.1 :: vI t.2.1 :: dd 4 (vI t.2.2.1 :: vI t.2.2.2.1 :: dd 16 [])), [(900, .box [v_u8 t.2.2.2.2.1, vI t.2.2.2.2.2.1, vB t.2.2.2.2.2.2.1]), (2, .box [.nils]), (3, .box [.own 10000001]), (10000000, .root true 106 ts_Key t.2.2.2.2.2.2.2.1), (10000001, .deep true 0 100 ts_s_Key t.2.2.2.2.2.2.2.2)]⟩
theorem f167v8_1 : ∀ s t, unG qz130 f167e8_1 s = some t → f167e8_1 t = s := unG_ok fun t => by kernel_rfl
def f167e8r0 : (Qz129 ⊕ Qz130) → St := Sum.elim f167e8_0 f167e8_1
def f167u8r0 (s : St) : Option (Qz129 ⊕ Qz130) := ((unG qz129 f167e8_0 s).map Sum.inl).or (((unG qz130 f167e8_1) s).map Sum.inr)
theorem f167v8r0 : ∀ s t, f167u8r0 s = some t → f167e8r0 t = s := or_un f167v8_0 f167v8_1
def f167g8 : Gk T_impl_reader_node_8 := fun κ => S_impl_reader_node_8 (fun t => κ (some 2) ⟨.box 900 0 :: .dead :: .box 2 0 :: .box 3 0 :: .dead :: .own 10000000 :: dd 5 (vI t.1 :: vI t.2.1 :: dd 22 []), [(900, .box [v_u8 t.2.2.1, vI t.2.2.2.1, vB t.2.2.2.2.1]), (2, .box [.nils]), (3, .box [.nils]), (10000000, .root true 106 ts_Key t.2.2.2.2.2)]⟩) (fun t => κ (some 2) ⟨.box 900 0 :: .dead :: .box 2 0 :: .box 3 0 :: .dead :: .own 10000000 :: dd 5 (vI t.1 :: vI t.2.1 :: dd 22 []), [(900, .box [v_u8 t.2.2.1, vI t.2.2.2.1, vB t.2.2.2.2.1]), (2, .box [.nils]), (3, .box [.own 10000001]), (10000000, .root true 106 ts_Key t.2.2.2.2.2.1), (10000001, .deep true 0 100 ts_s_Key t.2.2.2.2.2.2)]⟩)
def f167e4_0 (t : Qz133) : St := ⟨.box 900 0 :: .dead :: .box 2 0 :: .box 3 0 :: dd 7 (vI t.1 :: vI t.2.1 :: dd 22 []), [(900, .box [v_u8 t.2.2.1, vI t.2.2.2.1, vB t.2.2.2.2]), (2, .box [.nils]), (3, .box [.nils])]⟩
theorem f167v4_0 : ∀ s t, unG qz133 f167e4_0 s = some t → f167e4_0 t = s := unG_ok fun t => by kernel_rfl
def f167e4_1 (t : Qz134) : St := ⟨.box 900 0 :: .dead :: .box 2 0 :: .box 3 0 :: dd 7 (vI t.1 :: vI t.2.1 :: dd 22 []), [(900, .box [v_u8 t.2.2.1, vI t.2.2.2.1, vB t.2.2.2.2.1]), (2, .box [.nils]), (3, .box [.own 10000000]), (10000000, .deep true 0 100 ts_s_Key t.2.2.2.2.2)]⟩
theorem f167v4_1 : ∀ s t, unG qz134 f167e4_1 s = some t → f167e4_1 t = s := unG_ok fun t => by kernel_rfl
def f167e4r0 : (Qz133 ⊕ Qz134) → St := Sum.elim f167e4_0 f167e4_1
def f167u4r0 (s : St) : Option (Qz133 ⊕ Qz134) := ((unG qz133 f167e4_0 s).map Sum.inl).or (((unG qz134 f167e4_1) s).map Sum.inr)
theorem f167v4r0 : ∀ s t, f167u4r0 s = some t → f167e4r0 t = s := or_un f167v4_0 f167v4_1
def f167g4 : Gk T_impl_reader_node_4 := fun κ => S_impl_reader_node_4 (fun t => κ (some 0) ⟨.box 900 0 :: .dead :: .box 2 0 :: .box 3 0 :: dd 31 [], [(900, .box [v_u8 t.1, vI t.2.1, vB t.2.2]), (2, .box [.nils]), (3, .box [.nils])]⟩) (fun t => κ (some 0) ⟨.box 900 0 :: .dead :: .box 2 0 :: .box 3 0 :: dd 31 [], [(900, .box [v_u8 t.1, vI t.2.1, vB t.2.2.1]), (2, .box [.nils]), (3, .box [.own 10000000]), (10000000, .deep true 0 100 ts_s_Key t.2.2.2)]⟩)
def f167P : Lp := lpC 4 f167u4r0 @f167g4 (lpC 8 f167u8r0 @f167g8 lpN)
theorem f167C8_0 : LF f167Q f167P 167 8 Tryz.f167 1 f167e8r0 @f167g8 fun v : Qz129 => .inl v := fun R κ again v => by kernel_rfl
theorem f167C8_1 : LF f167Q f167P 167 8 Tryz.f167 1 f167e8r0 @f167g8 fun v : Qz130 => .inr v := fun R κ again v => by kernel_rfl
theorem f167C8 : LF f167Q f167P 167 8 Tryz.f167 1 f167e8r0 @f167g8 fun t => t := (LC.sum f167C8_0 f167C8_1)
theorem f167k8 : LK f167Q f167P 167 Tryz.f167 1 := lkN (u := f167u8r0) f167v8r0 f167C8
theorem f167C4_0 : LF f167Q f167P 167 4 Tryz.f167 0 f167e4r0 @f167g4 fun v : Qz133 => .inl v := fun R κ again v => by kernel_rfl
theorem f167C4_1 : LF f167Q f167P 167 4 Tryz.f167 0 f167e4r0 @f167g4 fun v : Qz134 => .inr v := fun R κ again v => by kernel_rfl
theorem f167C4 : LF f167Q f167P 167 4 Tryz.f167 0 f167e4r0 @f167g4 fun t => t := (LC.sum f167C4_0 f167C4_1)
theorem f167k4 : LK f167Q f167P 167 Tryz.f167 0 := lkN (u := f167u4r0) f167v4r0 f167C4
theorem ev167 : EV f167Q f167P 167 Tryz.f167 sg167 qz53 qz65 F_impl_reader_node := fun x => by kernel_rfl
def q167 : QF := ⟨167, F_impl_reader_node, okN (n := 2) Tryz.func167 ⟨f167k4, f167k8, trivial⟩ ev167⟩
abbrev T_impl_reader_pool_5 : Type := Qz135
def S_impl_reader_pool_5 (k0 : Qz136 → Option R) (again : T_impl_reader_pool_5 → Option R) (t5 : T_impl_reader_pool_5) : Option R :=
 bif (decide (t5.2.1 < t5.1)) then Option.bind (F_impl_reader_one (t5.2.2.1, t5.2.2.2.1, t5.2.2.2.2.1)) fun r3 => Option.bind (F_impl_reader_one (r3.2.1, r3.2.2.1, r3.2.2.2)) fun r4 => if (List.length t5.2.2.2.2.2.2.2.2.1 + List.length ([(r3.1, r4.1)] : List E_Age)) * 16 < 140737488355328 then again (t5.1, (Go.IntKind.wrap .i64 (t5.2.1 + (1 : Int))), r4.2.1, r4.2.2.1, r4.2.2.2, t5.2.2.2.2.2.1, t5.2.2.2.2.2.2.1, t5.2.2.2.2.2.2.2.1, (t5.2.2.2.2.2.2.2.2.1 ++ ([(r3.1, r4.1)] : List E_Age)), t5.2.2.2.2.2.2.2.2.2.1, t5.2.2.2.2.2.2.2.2.2.2) else none else k0 (t5.2.2.1, t5.2.2.2.1, t5.2.2.2.2.1, t5.2.2.2.2.2.1, t5.2.2.2.2.2.2.1, t5.2.2.2.2.2.2.2.1, t5.2.2.2.2.2.2.2.2.1, t5.2.2.2.2.2.2.2.2.2.1, t5.2.2.2.2.2.2.2.2.2.2)
def L_impl_reader_pool_5 k0 := iter (@S_impl_reader_pool_5 R k0) FUEL
abbrev T_impl_reader_pool_13 : Type := Qz135
def S_impl_reader_pool_13 (k0 : Qz136 → Option R) (again : T_impl_reader_pool_13 → Option R) (t13 : T_impl_reader_pool_13) : Option R :=
 bif (decide (t13.2.1 < t13.1)) then Option.bind (F_impl_reader_text (t13.2.2.1, t13.2.2.2.1, t13.2.2.2.2.1)) fun r7 => Option.bind (F_impl_reader_one (r7.2.1, r7.2.2.1, r7.2.2.2)) fun r8 => Option.bind (F_impl_reader_one (r8.2.1, r8.2.2.1, r8.2.2.2)) fun r9 => Option.bind (F_impl_reader_flag (r9.2.1, r9.2.2.1, r9.2.2.2)) fun r10 => if (List.length t13.2.2.2.2.2.2.2.2.2.2 + List.length ([(r7.1, r8.1, r9.1, r10.1)] : List E_Vol)) * 40 < 140737488355328 then again (t13.1, (Go.IntKind.wrap .i64 (t13.2.1 + (1 : Int))), r10.2.1, r10.2.2.1, r10.2.2.2, t13.2.2.2.2.2.1, t13.2.2.2.2.2.2.1, t13.2.2.2.2.2.2.2.1, t13.2.2.2.2.2.2.2.2.1, t13.2.2.2.2.2.2.2.2.2.1, (t13.2.2.2.2.2.2.2.2.2.2 ++ ([(r7.1, r8.1, r9.1, r10.1)] : List E_Vol))) else none else k0 (t13.2.2.1, t13.2.2.2.1, t13.2.2.2.2.1, t13.2.2.2.2.2.1, t13.2.2.2.2.2.2.1, t13.2.2.2.2.2.2.2.1, t13.2.2.2.2.2.2.2.2.1, t13.2.2.2.2.2.2.2.2.2.1, t13.2.2.2.2.2.2.2.2.2.2)
def L_impl_reader_pool_13 k0 := iter (@S_impl_reader_pool_13 R k0) FUEL
abbrev T_impl_reader_pool_22 : Type := Qz137
def S_impl_reader_pool_22 (k0 : Qz136 → Option R) (again : T_impl_reader_pool_22 → Option R) (t22 : T_impl_reader_pool_22) : Option R :=
 bif (decide (t22.1 < (24 : Int))) then Option.bind (F_impl_reader_word (t22.2.1, t22.2.2.1, t22.2.2.2.1)) fun r12 => Option.bind (F_impl_reader_flag (r12.2.1, r12.2.2.1, r12.2.2.2)) fun r13 => Option.bind (F_impl_reader_word (r13.2.1, r13.2.2.1, r13.2.2.2)) fun r14 => if (List.length t22.2.2.2.2.2.2.2.2.1 + List.length ([(r12.1, r13.1, r14.1)] : List E_Cell)) * 24 < 140737488355328 then again ((Go.IntKind.wrap .i64 (t22.1 + (1 : Int))), r14.2.1, r14.2.2.1, r14.2.2.2, t22.2.2.2.2.1, t22.2.2.2.2.2.1, t22.2.2.2.2.2.2.1, t22.2.2.2.2.2.2.2.1, (t22.2.2.2.2.2.2.2.2.1 ++ ([(r12.1, r13.1, r14.1)] : List E_Cell)), t22.2.2.2.2.2.2.2.2.2) else none else k0 (t22.2.1, t22.2.2.1, t22.2.2.2.1, t22.2.2.2.2.1, t22.2.2.2.2.2.1, t22.2.2.2.2.2.2.1, t22.2.2.2.2.2.2.2.1, t22.2.2.2.2.2.2.2.2.1, t22.2.2.2.2.2.2.2.2.2)
def L_impl_reader_pool_22 k0 := iter (@S_impl_reader_pool_22 R k0) FUEL
abbrev T_impl_reader_pool_31 : Type := Qz135 ⊕ Qz138
def S_impl_reader_pool_31 (k0 : Qz136 → Option R) (k1 : Qz139 → Option R) (again : T_impl_reader_pool_31 → Option R) : T_impl_reader_pool_31 → Option R
 | .inl t31 => bif (decide (t31.2.1 < t31.1)) then Option.bind (F_impl_reader_word (t31.2.2.1, t31.2.2.2.1, t31.2.2.2.2.1)) fun r17 => Option.bind (F_impl_reader_node (r17.2.1, r17.2.2.1, r17.2.2.2)) fun r18 => if (List.length t31.2.2.2.2.2.2.2.1 + List.length ([r17.1] : List E_i64)) * 8 < 140737488355328 then if List.length ([r18.1] : List E_Node) * 24 < 140737488355328 then again (Sum.inr (t31.1, (Go.IntKind.wrap .i64 (t31.2.1 + (1 : Int))), r18.2.1, r18.2.2.1, r18.2.2.2, t31.2.2.2.2.2.1, t31.2.2.2.2.2.2.1, (t31.2.2.2.2.2.2.2.1 ++ ([r17.1] : List E_i64)), ([r18.1] : List E_Node), t31.2.2.2.2.2.2.2.2.1, t31.2.2.2.2.2.2.2.2.2.1, t31.2.2.2.2.2.2.2.2.2.2)) else none else none else k0 (t31.2.2.1, t31.2.2.2.1, t31.2.2.2.2.1, t31.2.2.2.2.2.1, t31.2.2.2.2.2.2.1, t31.2.2.2.2.2.2.2.1, t31.2.2.2.2.2.2.2.2.1, t31.2.2.2.2.2.2.2.2.2.1, t31.2.2.2.2.2.2.2.2.2.2)
 | .inr t31 => bif (decide (t31.2.1 < t31.1)) then Option.bind (F_impl_reader_word (t31.2.2.1, t31.2.2.2.1, t31.2.2.2.2.1)) fun r19 => Option.bind (F_impl_reader_node (r19.2.1, r19.2.2.1, r19.2.2.2)) fun r20 => if (List.length t31.2.2.2.2.2.2.2.1 + List.length ([r19.1] : List E_i64)) * 8 < 140737488355328 then if (List.length t31.2.2.2.2.2.2.2.2.1 + List.length ([r20.1] : List E_Node)) * 24 < 140737488355328 then again (Sum.inr (t31.1, (Go.IntKind.wrap .i64 (t31.2.1 + (1 : Int))), r20.2.1, r20.2.2.1, r20.2.2.2, t31.2.2.2.2.2.1, t31.2.2.2.2.2.2.1, (t31.2.2.2.2.2.2.2.1 ++ ([r19.1] : List E_i64)), (t31.2.2.2.2.2.2.2.2.1 ++ ([r20.1] : List E_Node)), t31.2.2.2.2.2.2.2.2.2.1, t31.2.2.2.2.2.2.2.2.2.2.1, t31.2.2.2.2.2.2.2.2.2.2.2)) else none else none else k1 (t31.2.2.1, t31.2.2.2.1, t31.2.2.2.2.1, t31.2.2.2.2.2.1, t31.2.2.2.2.2.2.1, t31.2.2.2.2.2.2.2.1, t31.2.2.2.2.2.2.2.2.1, t31.2.2.2.2.2.2.2.2.2.1, t31.2.2.2.2.2.2.2.2.2.2.1, t31.2.2.2.2.2.2.2.2.2.2.2)
def L_impl_reader_pool_31 k0 k1 := iter (@S_impl_reader_pool_31 R k0 k1) FUEL
def F_impl_reader_pool (x : Qz53) : Option Qz140 :=
 Option.bind (F_impl_reader_word (x.1, x.2.1, x.2.2)) fun r1 => Option.bind (F_impl_reader_one (r1.2.1, r1.2.2.1, r1.2.2.2)) fun r2 => L_impl_reader_pool_5 (fun x5 => Option.bind (F_impl_reader_one (x5.1, x5.2.1, x5.2.2.1)) fun r6 => L_impl_reader_pool_13 (fun x11 => L_impl_reader_pool_22 (fun x15 => Option.bind (F_impl_reader_one (x15.1, x15.2.1, x15.2.2.1)) fun r16 => L_impl_reader_pool_31 (fun x21 => some (x21.2.2.2.2.2.1, ([] : List E_Node), x21.2.2.2.2.2.2.1, x21.2.2.2.2.2.2.2.1, x21.2.2.2.2.2.2.2.2, x21.2.2.2.2.1, x21.1, x21.2.1, x21.2.2.1)) (fun x22 => some (x22.2.2.2.2.2.1, x22.2.2.2.2.2.2.1, x22.2.2.2.2.2.2.2.1, x22.2.2.2.2.2.2.2.2.1, x22.2.2.2.2.2.2.2.2.2, x22.2.2.2.2.1, x22.1, x22.2.1, x22.2.2.1)) (Sum.inl (r16.1, (0 : Int), r16.2.1, r16.2.2.1, r16.2.2.2, x15.2.2.2.1, x15.2.2.2.2.1, x15.2.2.2.2.2.1, x15.2.2.2.2.2.2.1, x15.2.2.2.2.2.2.2.1, x15.2.2.2.2.2.2.2.2))) ((0 : Int), x11.1, x11.2.1, x11.2.2.1, x11.2.2.2.1, x11.2.2.2.2.1, x11.2.2.2.2.2.1, x11.2.2.2.2.2.2.1, x11.2.2.2.2.2.2.2.1, x11.2.2.2.2.2.2.2.2)) (r6.1, (0 : Int), r6.2.1, r6.2.2.1, r6.2.2.2, x5.2.2.2.1, x5.2.2.2.2.1, x5.2.2.2.2.2.1, x5.2.2.2.2.2.2.1, x5.2.2.2.2.2.2.2.1, x5.2.2.2.2.2.2.2.2)) (r2.1, (0 : Int), r2.2.1, r2.2.2.1, r2.2.2.2, (0 : Int), r1.1, ([] : List E_i64), ([] : List E_Age), ([] : List E_Cell), ([] : List E_Vol))
def f88Q : List QF := [q156, q157, q165, q166, q167]
def f88e5_0 (t : Qz135) : St := ⟨.box 900 0 :: .dead :: .box 2 0 :: .box 3 0 :: dd 14 (vI t.1 :: vI t.2.1 :: dd 86 []), [(900, .box [v_u8 t.2.2.1, vI t.2.2.2.1, vB t.2.2.2.2.1]), (2, .box [.nils, .nils, .nils, .nils, .nils, vI t.2.2.2.2.2.1]), (3, .box [.own 10000000, .nils, .own 10000001, .own 10000002, .own 10000003, vI t.2.2.2.2.2.2.1]), (10000000, .root true 3 ts_i64 t.2.2.2.2.2.2.2.1), (10000001, .root true 89 ts_Age t.2.2.2.2.2.2.2.2.1), (10000002, .root true 95 ts_Cell t.2.2.2.2.2.2.2.2.2.1), (10000003, .root true 91 ts_Vol t.2.2.2.2.2.2.2.2.2.2)]⟩
def f88g5 : Gk T_impl_reader_pool_5 := fun κ => S_impl_reader_pool_5 (fun t => κ (some 0) ⟨.box 900 0 :: .dead :: .box 2 0 :: .box 3 0 :: dd 102 [], [(900, .box [v_u8 t.1, vI t.2.1, vB t.2.2.1]), (2, .box [.nils, .nils, .nils, .nils, .nils, vI t.2.2.2.1]), (3, .box [.own 10000000, .nils, .own 10000001, .own 10000002, .own 10000003, vI t.2.2.2.2.1]), (10000000, .root true 3 ts_i64 t.2.2.2.2.2.1), (10000001, .root true 89 ts_Age t.2.2.2.2.2.2.1), (10000002, .root true 95 ts_Cell t.2.2.2.2.2.2.2.1), (10000003, .root true 91 ts_Vol t.2.2.2.2.2.2.2.2)]⟩)
def f88e13_0 (t : Qz135) : St := ⟨.box 900 0 :: .dead :: .box 2 0 :: .box 3 0 :: dd 33 (vI t.1 :: vI t.2.1 :: dd 67 []), [(900, .box [v_u8 t.2.2.1, vI t.2.2.2.1, vB t.2.2.2.2.1]), (2, .box [.nils, .nils, .nils, .nils, .nils, vI t.2.2.2.2.2.1]), (3, .box [.own 10000000, .nils, .own 10000001, .own 10000002, .own 10000003, vI t.2.2.2.2.2.2.1]), (10000000, .root true 3 ts_i64 t.2.2.2.2.2.2.2.1), (10000001, .root true 89 ts_Age t.2.2.2.2.2.2.2.2.1), (10000002, .root true 95 ts_Cell t.2.2.2.2.2.2.2.2.2.1), (10000003, .root true 91 ts_Vol t.2.2.2.2.2.2.2.2.2.2)]⟩
def f88g13 : Gk T_impl_reader_pool_13 := fun κ => S_impl_reader_pool_13 (fun t => κ (some 2) ⟨.box 900 0 :: .dead :: .box 2 0 :: .box 3 0 :: dd 102 [], [(900, .box [v_u8 t.1, vI t.2.1, vB t.2.2.1]), (2, .box [.nils, .nils, .nils, .nils, .nils, vI t.2.2.2.1]), (3, .box [.own 10000000, .nils, .own 10000001, .own 10000002, .own 10000003, vI t.2.2.2.2.1]), (10000000, .root true 3 ts_i64 t.2.2.2.2.2.1), (10000001, .root true 89 ts_Age t.2.2.2.2.2.2.1), (10000002, .root true 95 ts_Cell t.2.2.2.2.2.2.2.1), (10000003, .root true 91 ts_Vol t.2.2.2.2.2.2.2.2)]⟩)
def f88e22_0 (t : Qz137) : St := ⟨.box 900 0 :: .dead :: .box 2 0 :: .box 3 0 :: dd 56 (vI t.1 :: dd 45 []), [(900, .box [v_u8 t.2.1, vI t.2.2.1, vB t.2.2.2.1]), (2, .box [.nils, .nils, .nils, .nils, .nils, vI t.2.2.2.2.1]), (3, .box [.own 10000000, .nils, .own 10000001, .own 10000002, .own 10000003, vI t.2.2.2.2.2.1]), (10000000, .root true 3 ts_i64 t.2.2.2.2.2.2.1), (10000001, .root true 89 ts_Age t.2.2.2.2.2.2.2.1), (10000002, .root true 95 ts_Cell t.2.2.2.2.2.2.2.2.1), (10000003, .root true 91 ts_Vol t.2.2.2.2.2.2.2.2.2)]⟩
def f88g22 : Gk T_impl_reader_pool_22 := fun κ => S_impl_reader_pool_22 (fun t => κ (some 4) ⟨.box 900 0 :: .dead :: .box 2 0 :: .box 3 0 :: dd 102 [], [(900, .box [v_u8 t.1, vI t.2.1, vB t.2.2.1]), (2, .box [.nils, .nils, .nils, .nils, .nils, vI t.2.2.2.1]), (3, .box [.own 10000000, .nils, .own 10000001, .own 10000002, .own 10000003, vI t.2.2.2.2.1]), (10000000, .root true 3 ts_i64 t.2.2.2.2.2.1), (10000001, .root true 89 ts_Age t.2.2.2.2.2.2.1), (10000002, .root true 95 ts_Cell t.2.2.2.2.2.2.2.1), (10000003, .root true 91 ts_Vol t.2.2.2.2.2.2.2.2)]⟩)
def f88e31_0 (t : Qz135) : St := ⟨.box 900 0 :: .dead :: .box 2 0 :: .box 3 0 :: dd 77 (vI t.1 :: vI t.2.1 :: dd 23 []), [(900, .box [v_u8 t.2.2.1, vI t.2.2.2.1, vB t.2.2.2.2.1]), (2, .box [.nils, .nils, .nils, .nils, .nils, vI t.2.2.2.2.2.1]), (3, .box [.own 10000000, .nils, .own 10000001, .own 10000002, .own 10000003, vI t.2.2.2.2.2.2.1]), (10000000, .root true 3 ts_i64 t.2.2.2.2.2.2.2.1), (10000001, .root true 89 ts_Age t.2.2.2.2.2.2.2.2.1), (10000002, .root true 95 ts_Cell t.2.2.2.2.2.2.2.2.2.1), (10000003, .root true 91 ts_Vol t.2.2.2.2.2.2.2.2.2.2)]⟩
theorem f88v31_0 : ∀ s t, unG qz135 f88e31_0 s = some t → f88e31_0 t = s := unG_ok fun t => by kernel_rfl
def f88e31_1 (t : Qz138) : St := ⟨.box 900 0 :: .dead :: .box 2 0 :: .box 3 0 :: dd 77 (vI t.1 :: vI t.2.1 :: dd 23 []), [(900, .box [v_u8 t.2.2.1, vI t.2.2.2.1, vB t.2.2.2.2.1]), (2, .box [.nils, .nils, .nils, .nils, .nils, vI t.2.2.2.2.2.1]), (3, .box [.own 10000000, .own 10000001, .own 10000002, .own 10000003, .own 10000004, vI t.2.2.2.2.2.2.1]), (10000000, .root true 3 ts_i64 t.2.2.2.2.2.2.2.1), (10000001, .deep true 0 98 ts_Node t.2.2.2.2.2.2.2.2.1), (10000002, .root true 89 ts_Age t.2.2.2.2.2.2.2.2.2.1), (10000003, .root true 95 ts_Cell t.2.2.2.2.2.2.2.2.2.2.1), (10000004, .root true 91 ts_Vol t.2.2.2.2.2.2.2.2.2.2.2)]⟩
theorem f88v31_1 : ∀ s t, unG qz138 f88e31_1 s = some t → f88e31_1 t = s := unG_ok fun t => by kernel_rfl
def f88e31r0 : (Qz135 ⊕ Qz138) → St := Sum.elim f88e31_0 f88e31_1
def f88u31r0 (s : St) : Option (Qz135 ⊕ Qz138) := ((unG qz135 f88e31_0 s).map Sum.inl).or (((unG qz138 f88e31_1) s).map Sum.inr)
theorem f88v31r0 : ∀ s t, f88u31r0 s = some t → f88e31r0 t = s := or_un f88v31_0 f88v31_1
def f88g31 : Gk T_impl_reader_pool_31 := fun κ => S_impl_reader_pool_31 (fun t => κ (some 6) ⟨.box 900 0 :: .dead :: .box 2 0 :: .box 3 0 :: dd 102 [], [(900, .box [v_u8 t.1, vI t.2.1, vB t.2.2.1]), (2, .box [.nils, .nils, .nils, .nils, .nils, vI t.2.2.2.1]), (3, .box [.own 10000000, .nils, .own 10000001, .own 10000002, .own 10000003, vI t.2.2.2.2.1]), (10000000, .root true 3 ts_i64 t.2.2.2.2.2.1), (10000001, .root true 89 ts_Age t.2.2.2.2.2.2.1), (10000002, .root true 95 ts_Cell t.2.2.2.2.2.2.2.1), (10000003, .root true 91 ts_Vol t.2.2.2.2.2.2.2.2)]⟩) (fun t => κ (some 6) ⟨.box 900 0 :: .dead :: .box 2 0 :: .box 3 0 :: dd 102 [], [(900, .box [v_u8 t.1, vI t.2.1, vB t.2.2.1]), (2, .box [.nils, .nils, .nils, .nils, .nils, vI t.2.2.2.1]), (3, .box [.own 10000000, .own 10000001, .own 10000002, .own 10000003, .own 10000004, vI t.2.2.2.2.1]), (10000000, .root true 3 ts_i64 t.2.2.2.2.2.1), (10000001, .deep true 0 98 ts_Node t.2.2.2.2.2.2.1), (10000002, .root true 89 ts_Age t.2.2.2.2.2.2.2.1), (10000003, .root true 95 ts_Cell t.2.2.2.2.2.2.2.2.1), (10000004, .root true 91 ts_Vol t.2.2.2.2.2.2.2.2.2)]⟩)
def f88P : Lp := lpC 31 f88u31r0 @f88g31 (lpC 22 (unG qz137 f88e22_0) @f88g22 (lpC 13 (unG qz135 f88e13_0) @f88g13 (lpC 5 (unG qz135 f88e5_0) @f88g5 lpN)))
theorem f88C5 : LF f88Q f88P 88 5 Tryz.f88 0 f88e5_0 @f88g5 fun t => t := fun R κ again t => by kernel_rfl
theorem f88k5 : LK f88Q f88P 88 Tryz.f88 0 := lkN (u := (unG qz135 f88e5_0)) (unG_ok fun t => by kernel_rfl) f88C5
theorem f88C13 : LF f88Q f88P 88 13 Tryz.f88 1 f88e13_0 @f88g13 fun t => t := fun R κ again t => by kernel_rfl
theorem f88k13 : LK f88Q f88P 88 Tryz.f88 1 := lkN (u := (unG qz135 f88e13_0)) (unG_ok fun t => by kernel_rfl) f88C13
theorem f88C22 : LF f88Q f88P 88 22 Tryz.f88 2 f88e22_0 @f88g22 fun t => t := fun R κ again t => by kernel_rfl
theorem f88k22 : LK f88Q f88P 88 Tryz.f88 2 := lkN (u := (unG qz137 f88e22_0)) (unG_ok fun t => by kernel_rfl) f88C22
theorem f88C31_0 : LF f88Q f88P 88 31 Tryz.f88 3 f88e31r0 @f88g31 fun v : Qz135 => .inl v := fun R κ again v => by kernel_rfl
theorem f88C31_1 : LF f88Q f88P 88 31 Tryz.f88 3 f88e31r0 @f88g31 fun v : Qz138 => .inr v := fun R κ again v => by kernel_rfl
theorem f88C31 : LF f88Q f88P 88 31 Tryz.f88 3 f88e31r0 @f88g31 fun t => t := (LC.sum f88C31_0 f88C31_1)
theorem f88k31 : LK f88Q f88P 88 Tryz.f88 3 := lkN (u := f88u31r0) f88v31r0 f88C31
theorem ev88 : EV f88Q f88P 88 Tryz.f88 sg88 qz53 qz140 F_impl_reader_pool := fun x => by kernel_rfl
def q88 : QF := ⟨88, F_impl_reader_pool, okN (n := 4) Tryz.func88 ⟨f88k5, f88k13, f88k22, f88k31, trivial⟩ ev88⟩
def F_impl_reader_done (x : Qz53) : Option Qz55 :=
 Option.bind (bif (!x.2.2) then some (x.2.1 == ((List.length x.1 : Nat) : Int)) else some false) fun u1 => some (u1, x.1, x.2.1, x.2.2)
theorem ev89 : EV [] lpN 89 Tryz.f89 sg89 qz53 qz55 F_impl_reader_done := fun x => by kernel_rfl
def q89 : QF := ⟨89, F_impl_reader_done, okN (n := 0) Tryz.func89 trivial ev89⟩
def F_bytes_Equal (x : Qz1) : Option Bool :=
 some ((ByteArray.toList (textOf x.1)) == (ByteArray.toList (textOf x.2)))
theorem ev90 : EV [] lpN 90 Tryz.f90 sg90 qz1 [.bool] F_bytes_Equal := fun x => by kernel_rfl
def q90 : QF := ⟨90, F_bytes_Equal, okN (n := 0) Tryz.func90 trivial ev90⟩
def F_impl_GetPool (x : List E_u8) : Option Qz70 :=
 Option.bind (F_impl_reader_pool (x, (0 : Int), false)) fun r1 => Option.bind (F_impl_reader_done (r1.2.2.2.2.2.2.1, r1.2.2.2.2.2.2.2.1, r1.2.2.2.2.2.2.2.2)) fun r2 => Option.bind (bif (!r2.1) then some true else Option.bind (F_impl_PoolOk (r1.1, r1.2.1, r1.2.2.1, r1.2.2.2.1, r1.2.2.2.2.1, r1.2.2.2.2.2.1)) fun r4 => some (!r4)) fun u3 => Option.bind (bif u3 then some true else Option.bind (F_impl_PutPool (r1.1, r1.2.1, r1.2.2.1, r1.2.2.2.1, r1.2.2.2.2.1, r1.2.2.2.2.2.1)) fun r6 => Option.bind (F_bytes_Equal (r6, x)) fun r7 => some (!r7)) fun u5 => bif u5 then some (([] : List E_i64), ([] : List E_Node), ([] : List E_Age), ([] : List E_Cell), ([] : List E_Vol), (0 : Int), false) else some (r1.1, r1.2.1, r1.2.2.1, r1.2.2.2.1, r1.2.2.2.2.1, r1.2.2.2.2.2.1, true)
theorem ev28 : EV [q13, q56, q88, q89, q90] lpN 28 Tryz.f28 sg28 [(.sl 5 ts_u8)] qz70 F_impl_GetPool := fun x => by kernel_rfl
def q28 : QF := ⟨28, F_impl_GetPool, okN (n := 0) Tryz.func28 trivial ev28⟩
abbrev T_impl_Crc_7 : Type := Qz141
def S_impl_Crc_7 (k0 : Qz142 → Option R) (again : T_impl_Crc_7 → Option R) (t7 : T_impl_Crc_7) : Option R :=
 bif (decide (t7.2.2.2.2 < (8 : Int))) then bif ((Int.tmod t7.1 (2 : Int)) == (1 : Int)) then again ((Go.bits .xor .i64 (Go.IntKind.wrap .i64 (Int.tdiv t7.1 (2 : Int))) (2197175160 : Int)), t7.2.1, t7.2.2.1, t7.2.2.2.1, (Go.IntKind.wrap .i64 (t7.2.2.2.2 + (1 : Int)))) else again ((Go.IntKind.wrap .i64 (Int.tdiv t7.1 (2 : Int))), t7.2.1, t7.2.2.1, t7.2.2.2.1, (Go.IntKind.wrap .i64 (t7.2.2.2.2 + (1 : Int)))) else k0 (t7.1, t7.2.1, t7.2.2.1, t7.2.2.2.1)
def L_impl_Crc_7 k0 := iter (@S_impl_Crc_7 R k0) FUEL
abbrev T_impl_Crc_3 : Type := Qz142
def S_impl_Crc_3 (k0 : Int → Option R) (again : T_impl_Crc_3 → Option R) (t3 : T_impl_Crc_3) : Option R :=
 bif (decide (t3.2.2.2 < t3.2.2.1)) then if (0 : Int) ≤ t3.2.2.2 then if t3.2.2.2 < ((List.length t3.2.1 : Nat) : Int) then L_impl_Crc_7 (fun x1 => again (x1.1, x1.2.1, x1.2.2.1, (Go.IntKind.wrap .i64 (x1.2.2.2 + (1 : Int))))) ((Go.bits .xor .i64 t3.1 (Go.IntKind.wrap .i64 (rd_u8 t3.2.1 t3.2.2.2))), t3.2.1, t3.2.2.1, t3.2.2.2, (0 : Int)) else none else none else k0 t3.1
def L_impl_Crc_3 k0 := iter (@S_impl_Crc_3 R k0) FUEL
def F_impl_Crc (x : List E_u8) : Option Int :=
 L_impl_Crc_3 (fun x2 => some (Go.bits .xor .i64 x2 (4294967295 : Int))) ((4294967295 : Int), x, ((List.length x : Nat) : Int), (0 : Int))
def f110Q : List QF := []
def f110e7_0 (t : Qz141) : St := ⟨dd 3 (vI t.1 :: dd 3 (v_u8 t.2.1 :: vI t.2.2.1 :: vI t.2.2.2.1 :: dd 7 (vI t.2.2.2.2 :: dd 13 []))), []⟩
def f110g7 : Gk T_impl_Crc_7 := fun κ => S_impl_Crc_7 (fun t => κ (some 2) ⟨dd 3 (vI t.1 :: dd 3 (v_u8 t.2.1 :: vI t.2.2.1 :: vI t.2.2.2 :: dd 21 [])), []⟩)
def f110e3_0 (t : Qz142) : St := ⟨dd 3 (vI t.1 :: dd 3 (v_u8 t.2.1 :: vI t.2.2.1 :: vI t.2.2.2 :: dd 21 [])), []⟩
def f110g3 : Gk T_impl_Crc_3 := fun κ => S_impl_Crc_3 (fun t => κ (some 0) ⟨dd 3 (vI t :: dd 27 []), []⟩)
def f110P : Lp := lpC 3 (unG qz142 f110e3_0) @f110g3 (lpC 7 (unG qz141 f110e7_0) @f110g7 lpN)
theorem f110C7 : LF f110Q f110P 110 7 Tryz.f110 1 f110e7_0 @f110g7 fun t => t := fun R κ again t => by kernel_rfl
theorem f110k7 : LK f110Q f110P 110 Tryz.f110 1 := lkN (u := (unG qz141 f110e7_0)) (unG_ok fun t => by kernel_rfl) f110C7
theorem f110C3 : LF f110Q f110P 110 3 Tryz.f110 0 f110e3_0 @f110g3 fun t => t := fun R κ again t => by kernel_rfl
theorem f110k3 : LK f110Q f110P 110 Tryz.f110 0 := lkN (u := (unG qz142 f110e3_0)) (unG_ok fun t => by kernel_rfl) f110C3
theorem ev110 : EV f110Q f110P 110 Tryz.f110 sg110 [(.sl 5 ts_u8)] [(.int .i64)] F_impl_Crc := fun x => by kernel_rfl
def q110 : QF := ⟨110, F_impl_Crc, okN (n := 2) Tryz.func110 ⟨f110k3, f110k7, trivial⟩ ev110⟩
def F_impl_reader_four (x : Qz53) : Option Qz54 :=
 Option.bind (F_impl_reader_word (x.1, x.2.1, x.2.2)) fun r1 => Option.bind (F_impl_reader_word (r1.2.1, r1.2.2.1, r1.2.2.2)) fun r2 => some ((Go.bits .or .i64 (Go.IntKind.wrap .i64 (r1.1 * 2 ^ (min (Int.toNat (16 : Int)) (Go.IntKind.bits .i64)))) r2.1), r2.2.1, r2.2.2.1, r2.2.2.2)
theorem ev158 : EV [q156] lpN 158 Tryz.f158 sg158 qz53 qz54 F_impl_reader_four := fun x => by kernel_rfl
def q158 : QF := ⟨158, F_impl_reader_four, okN (n := 0) Tryz.func158 trivial ev158⟩
def F_impl_SuperOk (x : Qz23) : Option Bool :=
 Option.bind (F_impl_within (x.1, (1 : Int), (60000 : Int))) fun r1 => Option.bind (bif r1 then Option.bind (F_impl_within (x.2.1, (0 : Int), (1 : Int))) fun r3 => some r3 else some false) fun u2 => Option.bind (bif u2 then Option.bind (F_impl_within (x.2.2.1, (0 : Int), (1680 : Int))) fun r5 => some r5 else some false) fun u4 => Option.bind (bif u4 then Option.bind (F_impl_within (x.2.2.2.1, (0 : Int), (4294967295 : Int))) fun r7 => some r7 else some false) fun u6 => Option.bind (bif u6 then Option.bind (F_impl_within (x.2.2.2.2, (1 : Int), (60000 : Int))) fun r9 => some r9 else some false) fun u8 => some u8
theorem ev159 : EV [q134] lpN 159 Tryz.f159 sg159 qz23 [.bool] F_impl_SuperOk := fun x => by kernel_rfl
def q159 : QF := ⟨159, F_impl_SuperOk, okN (n := 0) Tryz.func159 trivial ev159⟩
def F_impl_GetSuper (x : List E_u8) : Option Qz72 :=
 Option.bind (F_impl_reader_word (x, (0 : Int), false)) fun r1 => Option.bind (F_impl_reader_one (r1.2.1, r1.2.2.1, r1.2.2.2)) fun r2 => Option.bind (F_impl_reader_word (r2.2.1, r2.2.2.1, r2.2.2.2)) fun r3 => Option.bind (F_impl_reader_four (r3.2.1, r3.2.2.1, r3.2.2.2)) fun r4 => Option.bind (F_impl_reader_word (r4.2.1, r4.2.2.1, r4.2.2.2)) fun r5 => Option.bind (F_impl_reader_four (r5.2.1, r5.2.2.1, r5.2.2.2)) fun r6 => Option.bind (F_impl_reader_done (r6.2.1, r6.2.2.1, r6.2.2.2)) fun r7 => Option.bind (bif (!r7.1) then some true else Option.bind (F_impl_SuperOk (r1.1, r2.1, r3.1, r4.1, r5.1)) fun r9 => some (!r9)) fun u8 => Option.bind (bif u8 then some true else if (0 : Int) ≤ (0 : Int) then if (0 : Int) ≤ r5.2.2.1 then if r5.2.2.1 ≤ ((List.length x : Nat) : Int) then Option.bind (F_impl_Crc (List.drop (Int.toNat (0 : Int)) (List.take (Int.toNat r5.2.2.1) x))) fun r11 => some (r6.1 != r11) else none else none else none) fun u10 => bif u10 then some ((0 : Int), (0 : Int), (0 : Int), (0 : Int), (0 : Int), false) else some (r1.1, r2.1, r3.1, r4.1, r5.1, true)
theorem ev76 : EV [q89, q110, q156, q157, q158, q159] lpN 76 Tryz.f76 sg76 [(.sl 5 ts_u8)] qz72 F_impl_GetSuper := fun x => by kernel_rfl
def q76 : QF := ⟨76, F_impl_GetSuper, okN (n := 0) Tryz.func76 trivial ev76⟩
abbrev T_impl_DevOk_4 : Type := Qz143
def S_impl_DevOk_4 (k0 : Qz74 → Option R) (k1 : Qz75 → Option R) (again : T_impl_DevOk_4 → Option R) (t4 : T_impl_DevOk_4) : Option R :=
 bif (decide (t4.2.2.1 < t4.2.1)) then if (0 : Int) ≤ t4.2.2.1 then if t4.2.2.1 < ((List.length t4.1 : Nat) : Int) then bif (decide (((List.length (rd_s_u8 t4.1 t4.2.2.1) : Nat) : Int) > (80 : Int))) then k0 (false, t4.2.2.2.1, t4.2.2.2.2.1, t4.2.2.2.2.2.1, t4.2.2.2.2.2.2) else again (t4.1, t4.2.1, (Go.IntKind.wrap .i64 (t4.2.2.1 + (1 : Int))), t4.2.2.2.1, t4.2.2.2.2.1, t4.2.2.2.2.2.1, t4.2.2.2.2.2.2) else none else none else k1 (t4.2.2.2.1, t4.2.2.2.2.1, t4.2.2.2.2.2.1, t4.2.2.2.2.2.2)
def L_impl_DevOk_4 k0 k1 := iter (@S_impl_DevOk_4 R k0 k1) FUEL
abbrev T_impl_DevOk_10 : Type := Qz144
def S_impl_DevOk_10 (k0 : Bool → Option R) (k1 : Unit → Option R) (again : T_impl_DevOk_10 → Option R) (t10 : T_impl_DevOk_10) : Option R :=
 bif (decide (t10.2.2.1 < t10.2.1)) then if (0 : Int) ≤ t10.2.2.1 then if t10.2.2.1 < ((List.length t10.1 : Nat) : Int) then Option.bind (F_impl_within ((rd_Wr t10.1 t10.2.2.1).1, (0 : Int), (Go.IntKind.wrap .i64 (((List.length t10.2.2.2.1 : Nat) : Int) - (1 : Int))))) fun r7 => Option.bind (bif (!r7) then some true else some (decide (((List.length ((rd_Wr t10.1 t10.2.2.1).2) : Nat) : Int) > (80 : Int)))) fun u8 => bif u8 then k0 false else again (t10.1, t10.2.1, (Go.IntKind.wrap .i64 (t10.2.2.1 + (1 : Int))), t10.2.2.2.1, t10.2.2.2.2.1, t10.2.2.2.2.2.1, t10.2.2.2.2.2.2) else none else none else k1 ()
def L_impl_DevOk_10 k0 k1 := iter (@S_impl_DevOk_10 R k0 k1) FUEL
def F_impl_DevOk (x : Qz75) : Option Bool :=
 Option.bind (F_impl_within (((List.length x.1 : Nat) : Int), (1 : Int), (60 : Int))) fun r1 => Option.bind (bif (!r1) then some true else some (decide (((List.length x.2.1 : Nat) : Int) > (60 : Int)))) fun u2 => Option.bind (bif u2 then some true else Option.bind (F_impl_within (x.2.2.1, (-1 : Int), (1000 : Int))) fun r4 => some (!r4)) fun u3 => bif u3 then some false else L_impl_DevOk_4 (fun x5 => some x5.1) (fun x6 => L_impl_DevOk_10 (fun x9 => some x9) (fun x10 => some true) (x6.2.1, ((List.length x6.2.1 : Nat) : Int), (0 : Int), x6.1, x6.2.1, x6.2.2.1, x6.2.2.2)) (x.1, ((List.length x.1 : Nat) : Int), (0 : Int), x.1, x.2.1, x.2.2.1, x.2.2.2)
def f160Q : List QF := [q134]
def f160e4_0 (t : Qz143) : St := ⟨.dead :: .box 1 0 :: dd 23 (v_s_u8 t.1 :: vI t.2.1 :: vI t.2.2.1 :: dd 29 []), [(1, .box [v_s_u8 t.2.2.2.1, v_Wr t.2.2.2.2.1, vI t.2.2.2.2.2.1, vB t.2.2.2.2.2.2])]⟩
def f160g4 : Gk T_impl_DevOk_4 := fun κ => S_impl_DevOk_4 (fun t => κ none ⟨.dead :: .box 1 0 :: vB t.1 :: dd 54 [], [(1, .box [v_s_u8 t.2.1, v_Wr t.2.2.1, vI t.2.2.2.1, vB t.2.2.2.2])]⟩) (fun t => κ (some 0) ⟨.dead :: .box 1 0 :: dd 55 [], [(1, .box [v_s_u8 t.1, v_Wr t.2.1, vI t.2.2.1, vB t.2.2.2])]⟩)
def f160e10_0 (t : Qz144) : St := ⟨.dead :: .box 1 0 :: dd 34 (v_Wr t.1 :: vI t.2.1 :: vI t.2.2.1 :: dd 18 []), [(1, .box [v_s_u8 t.2.2.2.1, v_Wr t.2.2.2.2.1, vI t.2.2.2.2.2.1, vB t.2.2.2.2.2.2])]⟩
def f160g10 : Gk T_impl_DevOk_10 := fun κ => S_impl_DevOk_10 (fun t => κ none ⟨dd 2 (vB t :: dd 54 []), []⟩) (fun t => κ (some 2) ⟨dd 57 [], []⟩)
def f160P : Lp := lpC 10 (unG qz144 f160e10_0) @f160g10 (lpC 4 (unG qz143 f160e4_0) @f160g4 lpN)
theorem f160C4 : LF f160Q f160P 160 4 Tryz.f160 0 f160e4_0 @f160g4 fun t => t := fun R κ again t => by kernel_rfl
theorem f160k4 : LK f160Q f160P 160 Tryz.f160 0 := lkN (u := (unG qz143 f160e4_0)) (unG_ok fun t => by kernel_rfl) f160C4
theorem f160C10 : LF f160Q f160P 160 10 Tryz.f160 1 f160e10_0 @f160g10 fun t => t := fun R κ again t => by kernel_rfl
theorem f160k10 : LK f160Q f160P 160 Tryz.f160 1 := lkN (u := (unG qz144 f160e10_0)) (unG_ok fun t => by kernel_rfl) f160C10
theorem ev160 : EV f160Q f160P 160 Tryz.f160 sg160 qz75 [.bool] F_impl_DevOk := fun x => by kernel_rfl
def q160 : QF := ⟨160, F_impl_DevOk, okN (n := 2) Tryz.func160 ⟨f160k4, f160k10, trivial⟩ ev160⟩
abbrev T_impl_ReadSec_4 : Type := Qz145
def S_impl_ReadSec_4 (k0 : Qz146 → Option R) (k1 : Qz73 → Option R) (again : T_impl_ReadSec_4 → Option R) (t4 : T_impl_ReadSec_4) : Option R :=
 bif (decide (t4.2.1 ≥ (0 : Int))) then if (0 : Int) ≤ t4.2.1 then if t4.2.1 < ((List.length t4.2.2.2.1 : Nat) : Int) then bif ((rd_Wr t4.2.2.2.1 t4.2.1).1 == t4.1) then if (0 : Int) ≤ t4.2.1 then if t4.2.1 < ((List.length t4.2.2.2.1 : Nat) : Int) then Option.bind (F_impl_joined ([(rd_Wr t4.2.2.2.1 t4.2.1).2] : List E_s_u8)) fun r4 => k0 (t4.1, t4.2.2.1, t4.2.2.2.1, t4.2.2.2.2.1, t4.2.2.2.2.2, r4) else none else none else again (t4.1, (Go.IntKind.wrap .i64 (t4.2.1 - (1 : Int))), t4.2.2.1, t4.2.2.2.1, t4.2.2.2.2.1, t4.2.2.2.2.2) else none else none else k1 (t4.1, t4.2.2.1, t4.2.2.2.1, t4.2.2.2.2.1, t4.2.2.2.2.2)
def L_impl_ReadSec_4 k0 k1 := iter (@S_impl_ReadSec_4 R k0 k1) FUEL
def F_impl_ReadSec (x : Qz77) : Option (List E_u8) :=
 Option.bind (F_impl_DevOk (x.1, x.2.1, x.2.2.1, x.2.2.2.1)) fun r1 => Option.bind (bif (!r1) then some true else Option.bind (F_impl_within (x.2.2.2.2, (0 : Int), (Go.IntKind.wrap .i64 (((List.length x.1 : Nat) : Int) - (1 : Int))))) fun r3 => some (!r3)) fun u2 => bif u2 then some ([] : List E_u8) else L_impl_ReadSec_4 (fun x5 => some x5.2.2.2.2.2) (fun x6 => if (0 : Int) ≤ x6.1 then if x6.1 < ((List.length x6.2.1 : Nat) : Int) then Option.bind (F_impl_joined ([(rd_s_u8 x6.2.1 x6.1)] : List E_s_u8)) fun r7 => some r7 else none else none) (x.2.2.2.2, (Go.IntKind.wrap .i64 (((List.length x.2.1 : Nat) : Int) - (1 : Int))), x.1, x.2.1, x.2.2.1, x.2.2.2.1)
def f77Q : List QF := [q134, q137, q160]
def f77e4_0 (t : Qz145) : St := ⟨.dead :: vI t.1 :: .box 2 0 :: dd 2 (vI t.2.1 :: dd 43 []), [(2, .box [v_s_u8 t.2.2.1, v_Wr t.2.2.2.1, vI t.2.2.2.2.1, vB t.2.2.2.2.2])]⟩
def f77g4 : Gk T_impl_ReadSec_4 := fun κ => S_impl_ReadSec_4 (fun t => κ none ⟨.dead :: vI t.1 :: .box 2 0 :: .dead :: .own 10000000 :: dd 44 [], [(2, .box [v_s_u8 t.2.1, v_Wr t.2.2.1, vI t.2.2.2.1, vB t.2.2.2.2.1]), (10000000, .root true 5 ts_u8 t.2.2.2.2.2)]⟩) (fun t => κ (some 0) ⟨.dead :: vI t.1 :: .box 2 0 :: dd 46 [], [(2, .box [v_s_u8 t.2.1, v_Wr t.2.2.1, vI t.2.2.2.1, vB t.2.2.2.2])]⟩)
def f77P : Lp := lpC 4 (unG qz145 f77e4_0) @f77g4 lpN
theorem f77C4 : LF f77Q f77P 77 4 Tryz.f77 0 f77e4_0 @f77g4 fun t => t := fun R κ again t => by kernel_rfl
theorem f77k4 : LK f77Q f77P 77 Tryz.f77 0 := lkN (u := (unG qz145 f77e4_0)) (unG_ok fun t => by kernel_rfl) f77C4
theorem ev77 : EV f77Q f77P 77 Tryz.f77 sg77 qz77 [(.sl 5 ts_u8)] F_impl_ReadSec := fun x => by kernel_rfl
def q77 : QF := ⟨77, F_impl_ReadSec, okN (n := 1) Tryz.func77 ⟨f77k4, trivial⟩ ev77⟩
def F_impl_PartAt (x : Qz6) : Option Int :=
 Option.bind (F_impl_within (x.1, (0 : Int), (1 : Int))) fun r1 => Option.bind (bif (!r1) then some true else Option.bind (F_impl_within (x.2, (0 : Int), (23 : Int))) fun r3 => some (!r3)) fun u2 => bif u2 then some (-1 : Int) else some (Go.IntKind.wrap .i64 ((Go.IntKind.wrap .i64 ((8 : Int) + (Go.IntKind.wrap .i64 (x.1 * (24 : Int))))) + x.2))
theorem ev161 : EV [q134] lpN 161 Tryz.f161 sg161 qz6 [(.int .i64)] F_impl_PartAt := fun x => by kernel_rfl
def q161 : QF := ⟨161, F_impl_PartAt, okN (n := 0) Tryz.func161 trivial ev161⟩
abbrev T_impl_ReadImage_3 : Type := Qz78
def S_impl_ReadImage_3 (k0 : Qz79 → Option R) (again : T_impl_ReadImage_3 → Option R) (t3 : T_impl_ReadImage_3) : Option R :=
 Option.bind (bif (decide (t3.1 < (24 : Int))) then some (decide (((List.length t3.2.2.2.2.2.2.2.2.2.2 : Nat) : Int) < t3.2.2.2.2.2.2.2.1)) else some false) fun u1 => bif u1 then Option.bind (F_impl_PartAt (t3.2.2.2.2.2.2.1, t3.1)) fun r2 => Option.bind (F_impl_ReadSec (t3.2.1, t3.2.2.1, t3.2.2.2.1, t3.2.2.2.2.1, r2)) fun r3 => if (List.length t3.2.2.2.2.2.2.2.2.2.2 + List.length r3) * 1 < 140737488355328 then again ((Go.IntKind.wrap .i64 (t3.1 + (1 : Int))), t3.2.1, t3.2.2.1, t3.2.2.2.1, t3.2.2.2.2.1, t3.2.2.2.2.2.1, t3.2.2.2.2.2.2.1, t3.2.2.2.2.2.2.2.1, t3.2.2.2.2.2.2.2.2.1, t3.2.2.2.2.2.2.2.2.2.1, (t3.2.2.2.2.2.2.2.2.2.2 ++ r3)) else none else k0 (t3.2.2.2.2.2.1, t3.2.2.2.2.2.2.1, t3.2.2.2.2.2.2.2.1, t3.2.2.2.2.2.2.2.2.1, t3.2.2.2.2.2.2.2.2.2.1, t3.2.2.2.2.2.2.2.2.2.2)
def L_impl_ReadImage_3 k0 := iter (@S_impl_ReadImage_3 R k0) FUEL
def F_impl_ReadImage (x : Qz80) : Option Qz81 :=
 L_impl_ReadImage_3 (fun x4 => Option.bind (F_impl_within (x4.2.2.1, (0 : Int), ((List.length x4.2.2.2.2.2 : Nat) : Int))) fun r5 => bif (!r5) then some (([] : List E_u8), false) else if (0 : Int) ≤ (0 : Int) then if (0 : Int) ≤ x4.2.2.1 then if x4.2.2.1 ≤ ((List.length x4.2.2.2.2.2 : Nat) : Int) then Option.bind (F_impl_Crc (List.take (Int.toNat x4.2.2.1) x4.2.2.2.2.2)) fun r6 => bif (r6 != x4.2.2.2.1) then some (([] : List E_u8), false) else if (0 : Int) ≤ (0 : Int) then if (0 : Int) ≤ x4.2.2.1 then if x4.2.2.1 ≤ ((List.length x4.2.2.2.2.2 : Nat) : Int) then some ((List.take (Int.toNat x4.2.2.1) x4.2.2.2.2.2), true) else none else none else none else none else none else none) ((0 : Int), x.1, x.2.1, x.2.2.1, x.2.2.2.1, x.2.2.2.2.1, x.2.2.2.2.2.1, x.2.2.2.2.2.2.1, x.2.2.2.2.2.2.2.1, x.2.2.2.2.2.2.2.2, ([] : List E_u8))
def f78Q : List QF := [q77, q110, q134, q161]
def f78e3_0 (t : Qz78) : St := ⟨dd 2 (.box 2 0 :: .box 3 0 :: dd 2 (.own 10000000 :: vI t.1 :: dd 40 [])), [(2, .box [v_s_u8 t.2.1, v_Wr t.2.2.1, vI t.2.2.2.1, vB t.2.2.2.2.1]), (3, .box [vI t.2.2.2.2.2.1, vI t.2.2.2.2.2.2.1, vI t.2.2.2.2.2.2.2.1, vI t.2.2.2.2.2.2.2.2.1, vI t.2.2.2.2.2.2.2.2.2.1]), (10000000, .root true 5 ts_u8 t.2.2.2.2.2.2.2.2.2.2)]⟩
def f78g3 : Gk T_impl_ReadImage_3 := fun κ => S_impl_ReadImage_3 (fun t => κ (some 0) ⟨dd 3 (.box 3 0 :: dd 2 (.own 10000000 :: dd 41 [])), [(3, .box [vI t.1, vI t.2.1, vI t.2.2.1, vI t.2.2.2.1, vI t.2.2.2.2.1]), (10000000, .root true 5 ts_u8 t.2.2.2.2.2)]⟩)
def f78P : Lp := lpC 3 (unG qz78 f78e3_0) @f78g3 lpN
theorem f78C3 : LF f78Q f78P 78 3 Tryz.f78 0 f78e3_0 @f78g3 fun t => t := fun R κ again t => by kernel_rfl
theorem f78k3 : LK f78Q f78P 78 Tryz.f78 0 := lkN (u := (unG qz78 f78e3_0)) (unG_ok fun t => by kernel_rfl) f78C3
theorem ev78 : EV f78Q f78P 78 Tryz.f78 sg78 qz80 qz81 F_impl_ReadImage := fun x => by kernel_rfl
def q78 : QF := ⟨78, F_impl_ReadImage, okN (n := 1) Tryz.func78 ⟨f78k3, trivial⟩ ev78⟩
abbrev T_impl_BestOf_4 : Type := Qz147
def S_impl_BestOf_4 (k0 : Qz148 → Option R) (again : T_impl_BestOf_4 → Option R) (t4 : T_impl_BestOf_4) : Option R :=
 bif (decide (t4.1 < (2 : Int))) then Option.bind (F_impl_ReadSec (t4.2.1, t4.2.2.1, t4.2.2.2.1, t4.2.2.2.2.1, t4.1)) fun r1 => Option.bind (F_impl_GetSuper r1) fun r2 => Option.bind (bif (!r2.2.2.2.2.2) then some true else some ((Int.tmod r2.1 (2 : Int)) != t4.1)) fun u3 => Option.bind (bif u3 then some true else some (decide (r2.1 ≤ t4.2.2.2.2.2.2.2.2.2.2.1))) fun u4 => bif u4 then again ((Go.IntKind.wrap .i64 (t4.1 + (1 : Int))), t4.2.1, t4.2.2.1, t4.2.2.2.1, t4.2.2.2.2.1, t4.2.2.2.2.2.1, t4.2.2.2.2.2.2.1, t4.2.2.2.2.2.2.2.1, t4.2.2.2.2.2.2.2.2.1, t4.2.2.2.2.2.2.2.2.2.1, t4.2.2.2.2.2.2.2.2.2.2.1, t4.2.2.2.2.2.2.2.2.2.2.2.1, t4.2.2.2.2.2.2.2.2.2.2.2.2.1, t4.2.2.2.2.2.2.2.2.2.2.2.2.2.1, t4.2.2.2.2.2.2.2.2.2.2.2.2.2.2.1, t4.2.2.2.2.2.2.2.2.2.2.2.2.2.2.2) else Option.bind (F_impl_ReadImage (t4.2.1, t4.2.2.1, t4.2.2.2.1, t4.2.2.2.2.1, r2.1, r2.2.1, r2.2.2.1, r2.2.2.2.1, r2.2.2.2.2.1)) fun r5 => Option.bind (F_impl_GetPool r5.1) fun r6 => Option.bind (bif r5.2 then some r6.2.2.2.2.2.2 else some false) fun u7 => bif u7 then again ((Go.IntKind.wrap .i64 (t4.1 + (1 : Int))), t4.2.1, t4.2.2.1, t4.2.2.2.1, t4.2.2.2.2.1, t4.2.2.2.2.2.1, t4.2.2.2.2.2.2.1, t4.2.2.2.2.2.2.2.1, t4.2.2.2.2.2.2.2.2.1, t4.2.2.2.2.2.2.2.2.2.1, r2.1, r2.2.1, r2.2.2.1, r2.2.2.2.1, r2.2.2.2.2.1, r5.1) else again ((Go.IntKind.wrap .i64 (t4.1 + (1 : Int))), t4.2.1, t4.2.2.1, t4.2.2.2.1, t4.2.2.2.2.1, t4.2.2.2.2.2.1, t4.2.2.2.2.2.2.1, t4.2.2.2.2.2.2.2.1, t4.2.2.2.2.2.2.2.2.1, t4.2.2.2.2.2.2.2.2.2.1, t4.2.2.2.2.2.2.2.2.2.2.1, t4.2.2.2.2.2.2.2.2.2.2.2.1, t4.2.2.2.2.2.2.2.2.2.2.2.2.1, t4.2.2.2.2.2.2.2.2.2.2.2.2.2.1, t4.2.2.2.2.2.2.2.2.2.2.2.2.2.2.1, t4.2.2.2.2.2.2.2.2.2.2.2.2.2.2.2) else k0 (t4.2.2.2.2.2.1, t4.2.2.2.2.2.2.1, t4.2.2.2.2.2.2.2.1, t4.2.2.2.2.2.2.2.2.1, t4.2.2.2.2.2.2.2.2.2.1, t4.2.2.2.2.2.2.2.2.2.2.1, t4.2.2.2.2.2.2.2.2.2.2.2.1, t4.2.2.2.2.2.2.2.2.2.2.2.2.1, t4.2.2.2.2.2.2.2.2.2.2.2.2.2.1, t4.2.2.2.2.2.2.2.2.2.2.2.2.2.2.1, t4.2.2.2.2.2.2.2.2.2.2.2.2.2.2.2)
def L_impl_BestOf_4 k0 := iter (@S_impl_BestOf_4 R k0) FUEL
def F_impl_BestOf (x : Qz75) : Option Qz86 :=
 L_impl_BestOf_4 (fun x8 => some (x8.2.2.2.2.2.1, x8.2.2.2.2.2.2.1, x8.2.2.2.2.2.2.2.1, x8.2.2.2.2.2.2.2.2.1, x8.2.2.2.2.2.2.2.2.2.1, x8.2.2.2.2.2.2.2.2.2.2, (decide (x8.2.2.2.2.2.1 > (0 : Int))))) ((0 : Int), x.1, x.2.1, x.2.2.1, x.2.2.2, (0 : Int), (0 : Int), (0 : Int), (0 : Int), (0 : Int), (0 : Int), (0 : Int), (0 : Int), (0 : Int), (0 : Int), ([] : List E_u8))
def f22Q : List QF := [q28, q76, q77, q78]
def f22e4_0 (t : Qz147) : St := ⟨.dead :: .box 1 0 :: .box 2 0 :: dd 2 (.box 5 0 :: .own 10000000 :: dd 9 (vI t.1 :: dd 48 [])), [(1, .box [v_s_u8 t.2.1, v_Wr t.2.2.1, vI t.2.2.2.1, vB t.2.2.2.2.1]), (2, .box [vI t.2.2.2.2.2.1, vI t.2.2.2.2.2.2.1, vI t.2.2.2.2.2.2.2.1, vI t.2.2.2.2.2.2.2.2.1, vI t.2.2.2.2.2.2.2.2.2.1]), (5, .box [vI t.2.2.2.2.2.2.2.2.2.2.1, vI t.2.2.2.2.2.2.2.2.2.2.2.1, vI t.2.2.2.2.2.2.2.2.2.2.2.2.1, vI t.2.2.2.2.2.2.2.2.2.2.2.2.2.1, vI t.2.2.2.2.2.2.2.2.2.2.2.2.2.2.1]), (10000000, .root true 5 ts_u8 t.2.2.2.2.2.2.2.2.2.2.2.2.2.2.2)]⟩
def f22g4 : Gk T_impl_BestOf_4 := fun κ => S_impl_BestOf_4 (fun t => κ (some 0) ⟨dd 2 (.box 2 0 :: dd 2 (.box 5 0 :: .own 10000000 :: dd 58 [])), [(2, .box [vI t.1, vI t.2.1, vI t.2.2.1, vI t.2.2.2.1, vI t.2.2.2.2.1]), (5, .box [vI t.2.2.2.2.2.1, vI t.2.2.2.2.2.2.1, vI t.2.2.2.2.2.2.2.1, vI t.2.2.2.2.2.2.2.2.1, vI t.2.2.2.2.2.2.2.2.2.1]), (10000000, .root true 5 ts_u8 t.2.2.2.2.2.2.2.2.2.2)]⟩)
def f22P : Lp := lpC 4 (unG qz147 f22e4_0) @f22g4 lpN
theorem f22C4 : LF f22Q f22P 22 4 Tryz.f22 0 f22e4_0 @f22g4 fun t => t := fun R κ again t => by kernel_rfl
theorem f22k4 : LK f22Q f22P 22 Tryz.f22 0 := lkN (u := (unG qz147 f22e4_0)) (unG_ok fun t => by kernel_rfl) f22C4
theorem ev22 : EV f22Q f22P 22 Tryz.f22 sg22 qz75 qz86 F_impl_BestOf := fun x => by kernel_rfl
def q22 : QF := ⟨22, F_impl_BestOf, okN (n := 1) Tryz.func22 ⟨f22k4, trivial⟩ ev22⟩
def F_laws_eqSuper (x : Qz15) : Option Bool :=
 bif (x.1 != x.2.2.2.2.2.1) then some false else bif (x.2.1 != x.2.2.2.2.2.2.1) then some false else bif (x.2.2.1 != x.2.2.2.2.2.2.2.1) then some false else bif (x.2.2.2.1 != x.2.2.2.2.2.2.2.2.1) then some false else bif (x.2.2.2.2.1 != x.2.2.2.2.2.2.2.2.2) then some false else some true
theorem ev23 : EV [] lpN 23 Tryz.f23 sg23 qz15 [.bool] F_laws_eqSuper := fun x => by kernel_rfl
def q23 : QF := ⟨23, F_laws_eqSuper, okN (n := 0) Tryz.func23 trivial ev23⟩
abbrev T_laws_eqByteSS_4 : Type := Qz149
def S_laws_eqByteSS_4 (k0 : Bool → Option R) (k1 : Unit → Option R) (again : T_laws_eqByteSS_4 → Option R) (t4 : T_laws_eqByteSS_4) : Option R :=
 bif (decide (t4.2.2 < ((List.length t4.1 : Nat) : Int))) then if (0 : Int) ≤ t4.2.2 then if t4.2.2 < ((List.length t4.1 : Nat) : Int) then if (0 : Int) ≤ t4.2.2 then if t4.2.2 < ((List.length t4.2.1 : Nat) : Int) then Option.bind (F_laws_eqByteS ((rd_s_u8 t4.1 t4.2.2), (rd_s_u8 t4.2.1 t4.2.2))) fun r1 => bif (!r1) then k0 false else again (t4.1, t4.2.1, (Go.IntKind.wrap .i64 (t4.2.2 + (1 : Int)))) else none else none else none else none else k1 ()
def L_laws_eqByteSS_4 k0 k1 := iter (@S_laws_eqByteSS_4 R k0 k1) FUEL
def F_laws_eqByteSS (x : Qz150) : Option Bool :=
 bif (((List.length x.1 : Nat) : Int) != ((List.length x.2 : Nat) : Int)) then some false else L_laws_eqByteSS_4 (fun x2 => some x2) (fun x3 => some true) (x.1, x.2, (0 : Int))
def f79Q : List QF := [q14]
def f79e4_0 (t : Qz149) : St := ⟨v_s_u8 t.1 :: v_s_u8 t.2.1 :: dd 3 (vI t.2.2 :: dd 21 []), []⟩
def f79g4 : Gk T_laws_eqByteSS_4 := fun κ => S_laws_eqByteSS_4 (fun t => κ none ⟨dd 4 (vB t :: dd 22 []), []⟩) (fun t => κ (some 0) ⟨dd 27 [], []⟩)
def f79P : Lp := lpC 4 (unG qz149 f79e4_0) @f79g4 lpN
theorem f79C4 : LF f79Q f79P 79 4 Tryz.f79 0 f79e4_0 @f79g4 fun t => t := fun R κ again t => by kernel_rfl
theorem f79k4 : LK f79Q f79P 79 Tryz.f79 0 := lkN (u := (unG qz149 f79e4_0)) (unG_ok fun t => by kernel_rfl) f79C4
theorem ev79 : EV f79Q f79P 79 Tryz.f79 sg79 qz150 [.bool] F_laws_eqByteSS := fun x => by kernel_rfl
def q79 : QF := ⟨79, F_laws_eqByteSS, okN (n := 1) Tryz.func79 ⟨f79k4, trivial⟩ ev79⟩
def F_laws_eqWr (x : Qz151) : Option Bool :=
 bif (x.1 != x.2.2.1) then some false else Option.bind (F_laws_eqByteS (x.2.1, x.2.2.2)) fun r1 => bif (!r1) then some false else some true
theorem ev162 : EV [q14] lpN 162 Tryz.f162 sg162 qz151 [.bool] F_laws_eqWr := fun x => by kernel_rfl
def q162 : QF := ⟨162, F_laws_eqWr, okN (n := 0) Tryz.func162 trivial ev162⟩
abbrev T_laws_eqWrS_4 : Type := Qz152
def S_laws_eqWrS_4 (k0 : Bool → Option R) (k1 : Unit → Option R) (again : T_laws_eqWrS_4 → Option R) (t4 : T_laws_eqWrS_4) : Option R :=
 bif (decide (t4.2.2 < ((List.length t4.1 : Nat) : Int))) then if (0 : Int) ≤ t4.2.2 then if t4.2.2 < ((List.length t4.1 : Nat) : Int) then if (0 : Int) ≤ t4.2.2 then if t4.2.2 < ((List.length t4.2.1 : Nat) : Int) then Option.bind (F_laws_eqWr ((rd_Wr t4.1 t4.2.2).1, (rd_Wr t4.1 t4.2.2).2, (rd_Wr t4.2.1 t4.2.2).1, (rd_Wr t4.2.1 t4.2.2).2)) fun r1 => bif (!r1) then k0 false else again (t4.1, t4.2.1, (Go.IntKind.wrap .i64 (t4.2.2 + (1 : Int)))) else none else none else none else none else k1 ()
def L_laws_eqWrS_4 k0 k1 := iter (@S_laws_eqWrS_4 R k0 k1) FUEL
def F_laws_eqWrS (x : Qz153) : Option Bool :=
 bif (((List.length x.1 : Nat) : Int) != ((List.length x.2 : Nat) : Int)) then some false else L_laws_eqWrS_4 (fun x2 => some x2) (fun x3 => some true) (x.1, x.2, (0 : Int))
def f80Q : List QF := [q162]
def f80e4_0 (t : Qz152) : St := ⟨v_Wr t.1 :: v_Wr t.2.1 :: dd 3 (vI t.2.2 :: dd 21 []), []⟩
def f80g4 : Gk T_laws_eqWrS_4 := fun κ => S_laws_eqWrS_4 (fun t => κ none ⟨dd 4 (vB t :: dd 22 []), []⟩) (fun t => κ (some 0) ⟨dd 27 [], []⟩)
def f80P : Lp := lpC 4 (unG qz152 f80e4_0) @f80g4 lpN
theorem f80C4 : LF f80Q f80P 80 4 Tryz.f80 0 f80e4_0 @f80g4 fun t => t := fun R κ again t => by kernel_rfl
theorem f80k4 : LK f80Q f80P 80 Tryz.f80 0 := lkN (u := (unG qz152 f80e4_0)) (unG_ok fun t => by kernel_rfl) f80C4
theorem ev80 : EV f80Q f80P 80 Tryz.f80 sg80 qz153 [.bool] F_laws_eqWrS := fun x => by kernel_rfl
def q80 : QF := ⟨80, F_laws_eqWrS, okN (n := 1) Tryz.func80 ⟨f80k4, trivial⟩ ev80⟩
def F_laws_eqDev (x : Qz154) : Option Bool :=
 Option.bind (F_laws_eqByteSS (x.1, x.2.2.2.2.1)) fun r1 => bif (!r1) then some false else Option.bind (F_laws_eqWrS (x.2.1, x.2.2.2.2.2.1)) fun r2 => bif (!r2) then some false else bif (x.2.2.1 != x.2.2.2.2.2.2.1) then some false else bif (!(x.2.2.2.1 == x.2.2.2.2.2.2.2)) then some false else some true
theorem ev24 : EV [q79, q80] lpN 24 Tryz.f24 sg24 qz154 [.bool] F_laws_eqDev := fun x => by kernel_rfl
def q24 : QF := ⟨24, F_laws_eqDev, okN (n := 0) Tryz.func24 trivial ev24⟩
abbrev T_laws_markByteSS_2 : Type := Qz155
def S_laws_markByteSS_2 (k0 : Qz156 → Option R) (again : T_laws_markByteSS_2 → Option R) (t2 : T_laws_markByteSS_2) : Option R :=
 bif (decide (t2.2.1 < ((List.length t2.2.2 : Nat) : Int))) then if (0 : Int) ≤ t2.2.1 then if t2.2.1 < ((List.length t2.2.2 : Nat) : Int) then Option.bind (F_laws_markByteS ((rd_s_u8 t2.2.2 t2.2.1), t2.1)) fun r1 => again (r1.1, (Go.IntKind.wrap .i64 (t2.2.1 + (1 : Int))), (List.set t2.2.2 (Int.toNat t2.2.1) r1.2)) else none else none else k0 (t2.1, t2.2.2)
def L_laws_markByteSS_2 k0 := iter (@S_laws_markByteSS_2 R k0) FUEL
def F_laws_markByteSS (x : Qz8) : Option Qz156 :=
 L_laws_markByteSS_2 (fun x2 => some (x2.1, x2.2)) (x.2, (0 : Int), x.1)
def f81Q : List QF := [q17]
def f81e2_0 (t : Qz155) : St := ⟨.own 10000000 :: vI t.1 :: dd 3 (vI t.2.1 :: dd 13 []), [(10000000, .deep true 1 32 ts_s_u8 t.2.2)]⟩
def f81g2 : Gk T_laws_markByteSS_2 := fun κ => S_laws_markByteSS_2 (fun t => κ (some 0) ⟨.own 10000000 :: vI t.1 :: dd 17 [], [(10000000, .deep true 1 32 ts_s_u8 t.2)]⟩)
def f81P : Lp := lpC 2 (unG qz155 f81e2_0) @f81g2 lpN
theorem f81C2 : LF f81Q f81P 81 2 Tryz.f81 0 f81e2_0 @f81g2 fun t => t := fun R κ again t => by kernel_rfl
theorem f81k2 : LK f81Q f81P 81 Tryz.f81 0 := lkN (u := (unG qz155 f81e2_0)) (unG_ok fun t => by kernel_rfl) f81C2
theorem ev81 : EV f81Q f81P 81 Tryz.f81 sg81 qz8 qz156 F_laws_markByteSS := fun x => by kernel_rfl
def q81 : QF := ⟨81, F_laws_markByteSS, okN (n := 1) Tryz.func81 ⟨f81k2, trivial⟩ ev81⟩
abbrev T_laws_markWrS_2 : Type := Qz157
def S_laws_markWrS_2 (k0 : Qz158 → Option R) (again : T_laws_markWrS_2 → Option R) (t2 : T_laws_markWrS_2) : Option R :=
 bif (decide (t2.2.1 < ((List.length t2.2.2 : Nat) : Int))) then if (0 : Int) ≤ t2.2.1 then if t2.2.1 < ((List.length t2.2.2 : Nat) : Int) then if (0 : Int) ≤ t2.2.1 then if t2.2.1 < ((List.length (List.set t2.2.2 (Int.toNat t2.2.1) (t2.1, (rd_Wr t2.2.2 t2.2.1).2)) : Nat) : Int) then Option.bind (F_laws_markByteS ((rd_Wr (List.set t2.2.2 (Int.toNat t2.2.1) (t2.1, (rd_Wr t2.2.2 t2.2.1).2)) t2.2.1).2, (Go.IntKind.wrap .i64 (t2.1 + (1 : Int))))) fun r1 => again (r1.1, (Go.IntKind.wrap .i64 (t2.2.1 + (1 : Int))), (List.set (List.set t2.2.2 (Int.toNat t2.2.1) (t2.1, (rd_Wr t2.2.2 t2.2.1).2)) (Int.toNat t2.2.1) ((rd_Wr (List.set t2.2.2 (Int.toNat t2.2.1) (t2.1, (rd_Wr t2.2.2 t2.2.1).2)) t2.2.1).1, r1.2))) else none else none else none else none else k0 (t2.1, t2.2.2)
def L_laws_markWrS_2 k0 := iter (@S_laws_markWrS_2 R k0) FUEL
def F_laws_markWrS (x : Qz159) : Option Qz158 :=
 L_laws_markWrS_2 (fun x2 => some (x2.1, x2.2)) (x.2, (0 : Int), x.1)
def f82Q : List QF := [q17]
def f82e2_0 (t : Qz157) : St := ⟨.own 10000000 :: vI t.1 :: dd 3 (vI t.2.1 :: dd 21 []), [(10000000, .deep true 1 186 ts_Wr t.2.2)]⟩
def f82g2 : Gk T_laws_markWrS_2 := fun κ => S_laws_markWrS_2 (fun t => κ (some 0) ⟨.own 10000000 :: vI t.1 :: dd 25 [], [(10000000, .deep true 1 186 ts_Wr t.2)]⟩)
def f82P : Lp := lpC 2 (unG qz157 f82e2_0) @f82g2 lpN
theorem f82C2 : LF f82Q f82P 82 2 Tryz.f82 0 f82e2_0 @f82g2 fun t => t := fun R κ again t => by kernel_rfl
theorem f82k2 : LK f82Q f82P 82 Tryz.f82 0 := lkN (u := (unG qz157 f82e2_0)) (unG_ok fun t => by kernel_rfl) f82C2
theorem ev82 : EV f82Q f82P 82 Tryz.f82 sg82 qz159 qz158 F_laws_markWrS := fun x => by kernel_rfl
def q82 : QF := ⟨82, F_laws_markWrS, okN (n := 1) Tryz.func82 ⟨f82k2, trivial⟩ ev82⟩
def F_laws_markDev (x : Qz77) : Option Qz160 :=
 Option.bind (F_laws_markByteSS (x.1, x.2.2.2.2)) fun r1 => Option.bind (F_laws_markWrS (x.2.1, r1.1)) fun r2 => some (r2.1, r1.2, r2.2)
theorem ev25 : EV [q81, q82] lpN 25 Tryz.f25 sg25 qz77 qz160 F_laws_markDev := fun x => by kernel_rfl
def q25 : QF := ⟨25, F_laws_markDev, okN (n := 0) Tryz.func25 trivial ev25⟩
def F_laws_FnExactBestOf (x : Qz90) : Option Bool :=
 Option.bind (F_laws_szDev (x.1, x.2.1, x.2.2.1, x.2.2.2, (1048576 : Int))) fun r1 => bif (decide (r1 < (0 : Int))) then some true else Option.bind (F_laws_toDev (x.1, x.2.1, x.2.2.1, x.2.2.2)) fun r2 => Option.bind (F_spec_BestOf (r2.1, r2.2.1, r2.2.2.1, r2.2.2.2)) fun r3 => Option.bind (F_laws_toDev (x.1, x.2.1, x.2.2.1, x.2.2.2)) fun r4 => Option.bind (F_impl_BestOf (r4.1, r4.2.1, r4.2.2.1, r4.2.2.2)) fun r5 => Option.bind (F_laws_eqSuper (r5.1, r5.2.1, r5.2.2.1, r5.2.2.2.1, r5.2.2.2.2.1, r3.1, r3.2.1, r3.2.2.1, r3.2.2.2.1, r3.2.2.2.2.1)) fun r6 => Option.bind (bif (!r6) then some true else Option.bind (F_laws_eqByteS (r5.2.2.2.2.2.1, r3.2.2.2.2.2.1)) fun r8 => some (!r8)) fun u7 => Option.bind (bif u7 then some true else some (!(r5.2.2.2.2.2.2 == r3.2.2.2.2.2.2))) fun u9 => bif u9 then some false else Option.bind (F_laws_toDev (x.1, x.2.1, x.2.2.1, x.2.2.2)) fun r10 => Option.bind (F_laws_eqDev (r4.1, r4.2.1, r4.2.2.1, r4.2.2.2, r10.1, r10.2.1, r10.2.2.1, r10.2.2.2)) fun r11 => bif (!r11) then some false else Option.bind (F_laws_markDev (r4.1, r4.2.1, r4.2.2.1, r4.2.2.2, (1 : Int))) fun r12 => Option.bind (bif (decide (r12.1 < (0 : Int))) then some true else Option.bind (F_laws_eqSuper (r5.1, r5.2.1, r5.2.2.1, r5.2.2.2.1, r5.2.2.2.2.1, r3.1, r3.2.1, r3.2.2.1, r3.2.2.2.1, r3.2.2.2.2.1)) fun r14 => some (!r14)) fun u13 => Option.bind (bif u13 then some true else Option.bind (F_laws_eqByteS (r5.2.2.2.2.2.1, r3.2.2.2.2.2.1)) fun r16 => some (!r16)) fun u15 => Option.bind (bif u15 then some true else some (!(r5.2.2.2.2.2.2 == r3.2.2.2.2.2.2))) fun u17 => bif u17 then some false else Option.bind (F_laws_markByteS (r5.2.2.2.2.2.1, (1 : Int))) fun r18 => Option.bind (F_laws_heldByteS (r18.2, (1 : Int))) fun r19 => bif (decide (r19 < (0 : Int))) then some false else bif (r19 != r18.1) then some false else Option.bind (F_laws_toDev (x.1, x.2.1, x.2.2.1, x.2.2.2)) fun r20 => Option.bind (F_impl_BestOf (r20.1, r20.2.1, r20.2.2.1, r20.2.2.2)) fun r21 => Option.bind (F_laws_eqSuper (r21.1, r21.2.1, r21.2.2.1, r21.2.2.2.1, r21.2.2.2.2.1, r3.1, r3.2.1, r3.2.2.1, r3.2.2.2.1, r3.2.2.2.2.1)) fun r22 => Option.bind (bif (!r22) then some true else Option.bind (F_laws_eqByteS (r21.2.2.2.2.2.1, r3.2.2.2.2.2.1)) fun r24 => some (!r24)) fun u23 => Option.bind (bif u23 then some true else some (!(r21.2.2.2.2.2.2 == r3.2.2.2.2.2.2))) fun u25 => bif u25 then some false else Option.bind (F_laws_heldByteS (r18.2, (1 : Int))) fun r26 => bif (decide (r26 < (0 : Int))) then some false else bif (r26 != r18.1) then some false else some true
theorem ev4 : EV [q14, q17, q18, q19, q20, q21, q22, q23, q24, q25] lpN 4 Tryz.f4 sg4 qz90 [.bool] F_laws_FnExactBestOf := fun x => by kernel_rfl
def q4 : QF := ⟨4, F_laws_FnExactBestOf, okN (n := 0) Tryz.func4 trivial ev4⟩
end
end Go.Proofs.YtmapoakbdgpamaaGreat.XL
