/- What functions compute, and that they do; part 0 of J; by a program (dec.py). No condition. -/
import Derived.Test.YtibkaphfhdmjlaaXJ
set_option linter.all false
namespace Go.Proofs.Ytibkaphfhdmjlaa.XJ
open Go.Proofs.Ytibkaphfhdmjlaa.R
set_option maxRecDepth 100000
noncomputable def F_laws_szByteS (x : Qz0) : Option Int :=
  bif (decide ((Go.IntKind.wrap .i64 (x.2 - ((List.length x.1 : Nat) : Int))) < (0 : Int))) then some (-1 : Int) else some (Go.IntKind.wrap .i64 (x.2 - ((List.length x.1 : Nat) : Int)))
theorem ev43 : EV [] lpN 43 Try.f43 sg43 qz0 [(.int .i64)] F_laws_szByteS := fun x => by kernel_rfl
noncomputable def q43 : QF := ⟨43, F_laws_szByteS, okN (n := 0) Try.func43 (by kernel_rfl) (by kernel_rfl) trivial ev43⟩
abbrev T_laws_szByteSS_5 : Type := Qz1
noncomputable def S_laws_szByteSS_5 {R : Type} (k0 : Qz2 → Option R) (k1 : Int → Option R) (again : T_laws_szByteSS_5 → Option R) (t5 : T_laws_szByteSS_5) : Option R :=
  bif (decide (t5.2.2 < ((List.length t5.1 : Nat) : Int))) then if (0 : Int) ≤ t5.2.2 then if t5.2.2 < ((List.length t5.1 : Nat) : Int) then Option.bind (F_laws_szByteS ((rd_s_u8 t5.1 t5.2.2), t5.2.1)) fun r1 => bif (decide (r1 < (0 : Int))) then k0 (r1, (-1 : Int)) else again (t5.1, r1, (Go.IntKind.wrap .i64 (t5.2.2 + (1 : Int)))) else none else none else k1 t5.2.1
noncomputable def L_laws_szByteSS_5 {R : Type} (k0 : Qz2 → Option R) (k1 : Int → Option R) (t : T_laws_szByteSS_5) : Option R := iter (S_laws_szByteSS_5 k0 k1) FUEL t
noncomputable def F_laws_szByteSS (x : Qz3) : Option Int :=
  bif (decide ((Go.IntKind.wrap .i64 (x.2 - ((List.length x.1 : Nat) : Int))) < (0 : Int))) then some (-1 : Int) else L_laws_szByteSS_5 (fun x2 => some x2.2) (fun x3 => some x3) (x.1, (Go.IntKind.wrap .i64 (x.2 - ((List.length x.1 : Nat) : Int))), (0 : Int))
noncomputable def f19Q : List QF := [q43]
def f19e5_0 (t : Qz1) : St := ⟨v_s_u8 t.1 :: vI t.2.1 :: dd 3 (vI t.2.2 :: dd 21 []), []⟩
noncomputable def f19g5 : Gk T_laws_szByteSS_5 := fun κ => S_laws_szByteSS_5 (fun t => κ none ⟨.dead :: vI t.1 :: dd 2 (vI t.2 :: dd 22 []), []⟩) (fun t => κ (some 0) ⟨.dead :: vI t :: dd 25 [], []⟩)
noncomputable def f19P : Lp := lpC 5 (unG qz1 f19e5_0) @f19g5 lpN
theorem f19C5 : LF f19Q f19P 19 5 Try.f19 0 f19e5_0 @f19g5 fun t => t := fun R κ again t => by kernel_rfl
theorem f19k5 : LK f19Q f19P 19 Try.f19 0 := loop_okG (u := (unG qz1 f19e5_0)) (by kernel_rfl) (unG_ok fun t => by kernel_rfl) (fun R κ s => by kernel_rfl) f19C5
theorem ev19 : EV f19Q f19P 19 Try.f19 sg19 qz3 [(.int .i64)] F_laws_szByteSS := fun x => by kernel_rfl
noncomputable def q19 : QF := ⟨19, F_laws_szByteSS, okN (n := 1) Try.func19 (by kernel_rfl) (by kernel_rfl) ⟨f19k5, trivial⟩ ev19⟩
noncomputable def F_laws_szWr (x : Qz4) : Option Int :=
  Option.bind (F_laws_szByteS (x.2.1, x.2.2)) fun r1 => bif (decide (r1 < (0 : Int))) then some (-1 : Int) else some r1
theorem ev44 : EV [q43] lpN 44 Try.f44 sg44 qz4 [(.int .i64)] F_laws_szWr := fun x => by kernel_rfl
noncomputable def q44 : QF := ⟨44, F_laws_szWr, okN (n := 0) Try.func44 (by kernel_rfl) (by kernel_rfl) trivial ev44⟩
abbrev T_laws_szWrS_5 : Type := Qz5
noncomputable def S_laws_szWrS_5 {R : Type} (k0 : Qz2 → Option R) (k1 : Int → Option R) (again : T_laws_szWrS_5 → Option R) (t5 : T_laws_szWrS_5) : Option R :=
  bif (decide (t5.2.2 < ((List.length t5.1 : Nat) : Int))) then if (0 : Int) ≤ t5.2.2 then if t5.2.2 < ((List.length t5.1 : Nat) : Int) then Option.bind (F_laws_szWr ((rd_LWr t5.1 t5.2.2).1, (rd_LWr t5.1 t5.2.2).2, t5.2.1)) fun r1 => bif (decide (r1 < (0 : Int))) then k0 (r1, (-1 : Int)) else again (t5.1, r1, (Go.IntKind.wrap .i64 (t5.2.2 + (1 : Int)))) else none else none else k1 t5.2.1
noncomputable def L_laws_szWrS_5 {R : Type} (k0 : Qz2 → Option R) (k1 : Int → Option R) (t : T_laws_szWrS_5) : Option R := iter (S_laws_szWrS_5 k0 k1) FUEL t
noncomputable def F_laws_szWrS (x : Qz6) : Option Int :=
  bif (decide ((Go.IntKind.wrap .i64 (x.2 - ((List.length x.1 : Nat) : Int))) < (0 : Int))) then some (-1 : Int) else L_laws_szWrS_5 (fun x2 => some x2.2) (fun x3 => some x3) (x.1, (Go.IntKind.wrap .i64 (x.2 - ((List.length x.1 : Nat) : Int))), (0 : Int))
noncomputable def f20Q : List QF := [q44]
def f20e5_0 (t : Qz5) : St := ⟨v_LWr t.1 :: vI t.2.1 :: dd 3 (vI t.2.2 :: dd 21 []), []⟩
noncomputable def f20g5 : Gk T_laws_szWrS_5 := fun κ => S_laws_szWrS_5 (fun t => κ none ⟨.dead :: vI t.1 :: dd 2 (vI t.2 :: dd 22 []), []⟩) (fun t => κ (some 0) ⟨.dead :: vI t :: dd 25 [], []⟩)
noncomputable def f20P : Lp := lpC 5 (unG qz5 f20e5_0) @f20g5 lpN
theorem f20C5 : LF f20Q f20P 20 5 Try.f20 0 f20e5_0 @f20g5 fun t => t := fun R κ again t => by kernel_rfl
theorem f20k5 : LK f20Q f20P 20 Try.f20 0 := loop_okG (u := (unG qz5 f20e5_0)) (by kernel_rfl) (unG_ok fun t => by kernel_rfl) (fun R κ s => by kernel_rfl) f20C5
theorem ev20 : EV f20Q f20P 20 Try.f20 sg20 qz6 [(.int .i64)] F_laws_szWrS := fun x => by kernel_rfl
noncomputable def q20 : QF := ⟨20, F_laws_szWrS, okN (n := 1) Try.func20 (by kernel_rfl) (by kernel_rfl) ⟨f20k5, trivial⟩ ev20⟩
noncomputable def F_laws_szDev (x : Qz7) : Option Int :=
  Option.bind (F_laws_szByteSS (x.1, x.2.2.2.2)) fun r1 => bif (decide (r1 < (0 : Int))) then some (-1 : Int) else Option.bind (F_laws_szWrS (x.2.1, r1)) fun r2 => bif (decide (r2 < (0 : Int))) then some (-1 : Int) else some r2
theorem ev5 : EV [q19, q20] lpN 5 Try.f5 sg5 qz7 [(.int .i64)] F_laws_szDev := fun x => by kernel_rfl
noncomputable def q5 : QF := ⟨5, F_laws_szDev, okN (n := 0) Try.func5 (by kernel_rfl) (by kernel_rfl) trivial ev5⟩
abbrev T_laws_toByteS_3 : Type := Qz8
noncomputable def S_laws_toByteS_3 {R : Type} (k0 : List E_u8 → Option R) (again : T_laws_toByteS_3 → Option R) (t3 : T_laws_toByteS_3) : Option R :=
  bif (decide (t3.2.1 < ((List.length t3.1 : Nat) : Int))) then if (0 : Int) ≤ t3.2.1 then if t3.2.1 < ((List.length t3.1 : Nat) : Int) then if (0 : Int) ≤ t3.2.1 then if t3.2.1 < ((List.length t3.2.2 : Nat) : Int) then again (t3.1, (Go.IntKind.wrap .i64 (t3.2.1 + (1 : Int))), (List.set t3.2.2 (Int.toNat t3.2.1) (rd_u8 t3.1 t3.2.1))) else none else none else none else none else k0 t3.2.2
noncomputable def L_laws_toByteS_3 {R : Type} (k0 : List E_u8 → Option R) (t : T_laws_toByteS_3) : Option R := iter (S_laws_toByteS_3 k0) FUEL t
noncomputable def F_laws_toByteS (x : List E_u8) : Option (List E_u8) :=
  if (0 : Int) ≤ ((List.length x : Nat) : Int) then if ((List.length x : Nat) : Int) ≤ ((List.length x : Nat) : Int) then if ((List.length x : Nat) : Int) * ((1 : Nat) : Int) ≤ 140737488351232 then L_laws_toByteS_3 (fun x1 => some x1) (x, (0 : Int), (List.replicate (Int.toNat ((List.length x : Nat) : Int)) z_u8)) else none else none else none
noncomputable def f16Q : List QF := []
def f16e3_0 (t : Qz8) : St := ⟨v_u8 t.1 :: dd 2 (.own 10000000 :: vI t.2.1 :: dd 17 []), [(10000000, .root true 5 ts_u8 t.2.2)]⟩
noncomputable def f16g3 : Gk T_laws_toByteS_3 := fun κ => S_laws_toByteS_3 (fun t => κ (some 0) ⟨dd 3 (.own 10000000 :: dd 18 []), [(10000000, .root true 5 ts_u8 t)]⟩)
noncomputable def f16P : Lp := lpC 3 (unG qz8 f16e3_0) @f16g3 lpN
theorem f16C3 : LF f16Q f16P 16 3 Try.f16 0 f16e3_0 @f16g3 fun t => t := fun R κ again t => by kernel_rfl
theorem f16k3 : LK f16Q f16P 16 Try.f16 0 := loop_okG (u := (unG qz8 f16e3_0)) (by kernel_rfl) (unG_ok fun t => by kernel_rfl) (fun R κ s => by kernel_rfl) f16C3
theorem ev16 : EV f16Q f16P 16 Try.f16 sg16 [(.sl 5 ts_u8)] [(.sl 5 ts_u8)] F_laws_toByteS := fun x => by kernel_rfl
noncomputable def q16 : QF := ⟨16, F_laws_toByteS, okN (n := 1) Try.func16 (by kernel_rfl) (by kernel_rfl) ⟨f16k3, trivial⟩ ev16⟩
abbrev T_laws_toByteSS_3 : Type := Qz9
noncomputable def S_laws_toByteSS_3 {R : Type} (k0 : List E_s_u8 → Option R) (again : T_laws_toByteSS_3 → Option R) (t3 : T_laws_toByteSS_3) : Option R :=
  bif (decide (t3.2.1 < ((List.length t3.1 : Nat) : Int))) then if (0 : Int) ≤ t3.2.1 then if t3.2.1 < ((List.length t3.1 : Nat) : Int) then Option.bind (F_laws_toByteS (rd_s_u8 t3.1 t3.2.1)) fun r1 => if (0 : Int) ≤ t3.2.1 then if t3.2.1 < ((List.length t3.2.2 : Nat) : Int) then again (t3.1, (Go.IntKind.wrap .i64 (t3.2.1 + (1 : Int))), (List.set t3.2.2 (Int.toNat t3.2.1) r1)) else none else none else none else none else k0 t3.2.2
noncomputable def L_laws_toByteSS_3 {R : Type} (k0 : List E_s_u8 → Option R) (t : T_laws_toByteSS_3) : Option R := iter (S_laws_toByteSS_3 k0) FUEL t
noncomputable def F_laws_toByteSS (x : List E_s_u8) : Option (List E_s_u8) :=
  if (0 : Int) ≤ ((List.length x : Nat) : Int) then if ((List.length x : Nat) : Int) ≤ ((List.length x : Nat) : Int) then if ((List.length x : Nat) : Int) * ((24 : Nat) : Int) ≤ 140737488351232 then L_laws_toByteSS_3 (fun x2 => some x2) (x, (0 : Int), (List.replicate (Int.toNat ((List.length x : Nat) : Int)) z_s_u8)) else none else none else none
noncomputable def f24Q : List QF := [q16]
def f24e3_0 (t : Qz9) : St := ⟨v_s_u8 t.1 :: dd 2 (.own 10000000 :: vI t.2.1 :: dd 18 []), [(10000000, .deep false 0 29 ts_s_u8 t.2.2)]⟩
noncomputable def f24g3 : Gk T_laws_toByteSS_3 := fun κ => S_laws_toByteSS_3 (fun t => κ (some 0) ⟨dd 3 (.own 10000000 :: dd 19 []), [(10000000, .deep false 0 29 ts_s_u8 t)]⟩)
noncomputable def f24P : Lp := lpC 3 (unG qz9 f24e3_0) @f24g3 lpN
theorem f24C3 : LF f24Q f24P 24 3 Try.f24 0 f24e3_0 @f24g3 fun t => t := fun R κ again t => by kernel_rfl
theorem f24k3 : LK f24Q f24P 24 Try.f24 0 := loop_okG (u := (unG qz9 f24e3_0)) (by kernel_rfl) (unG_ok fun t => by kernel_rfl) (fun R κ s => by kernel_rfl) f24C3
theorem ev24 : EV f24Q f24P 24 Try.f24 sg24 [(.sl 29 ts_s_u8)] [(.sl 29 ts_s_u8)] F_laws_toByteSS := fun x => by kernel_rfl
noncomputable def q24 : QF := ⟨24, F_laws_toByteSS, okN (n := 1) Try.func24 (by kernel_rfl) (by kernel_rfl) ⟨f24k3, trivial⟩ ev24⟩
noncomputable def F_laws_toWr (x : Qz10) : Option Qz10 :=
  Option.bind (F_laws_toByteS x.2) fun r1 => some (x.1, r1)
theorem ev45 : EV [q16] lpN 45 Try.f45 sg45 qz10 qz10 F_laws_toWr := fun x => by kernel_rfl
noncomputable def q45 : QF := ⟨45, F_laws_toWr, okN (n := 0) Try.func45 (by kernel_rfl) (by kernel_rfl) trivial ev45⟩
abbrev T_laws_toWrS_3 : Type := Qz11
noncomputable def S_laws_toWrS_3 {R : Type} (k0 : List E_Wr → Option R) (again : T_laws_toWrS_3 → Option R) (t3 : T_laws_toWrS_3) : Option R :=
  bif (decide (t3.2.1 < ((List.length t3.1 : Nat) : Int))) then if (0 : Int) ≤ t3.2.1 then if t3.2.1 < ((List.length t3.1 : Nat) : Int) then Option.bind (F_laws_toWr ((rd_LWr t3.1 t3.2.1).1, (rd_LWr t3.1 t3.2.1).2)) fun r1 => if (0 : Int) ≤ t3.2.1 then if t3.2.1 < ((List.length t3.2.2 : Nat) : Int) then again (t3.1, (Go.IntKind.wrap .i64 (t3.2.1 + (1 : Int))), (List.set t3.2.2 (Int.toNat t3.2.1) (r1.1, r1.2))) else none else none else none else none else k0 t3.2.2
noncomputable def L_laws_toWrS_3 {R : Type} (k0 : List E_Wr → Option R) (t : T_laws_toWrS_3) : Option R := iter (S_laws_toWrS_3 k0) FUEL t
noncomputable def F_laws_toWrS (x : List E_LWr) : Option (List E_Wr) :=
  if (0 : Int) ≤ ((List.length x : Nat) : Int) then if ((List.length x : Nat) : Int) ≤ ((List.length x : Nat) : Int) then if ((List.length x : Nat) : Int) * ((32 : Nat) : Int) ≤ 140737488351232 then L_laws_toWrS_3 (fun x2 => some x2) (x, (0 : Int), (List.replicate (Int.toNat ((List.length x : Nat) : Int)) z_Wr)) else none else none else none
noncomputable def f25Q : List QF := [q45]
def f25e3_0 (t : Qz11) : St := ⟨v_LWr t.1 :: dd 2 (.own 10000000 :: vI t.2.1 :: dd 18 []), [(10000000, .deep false 0 64 ts_Wr t.2.2)]⟩
noncomputable def f25g3 : Gk T_laws_toWrS_3 := fun κ => S_laws_toWrS_3 (fun t => κ (some 0) ⟨dd 3 (.own 10000000 :: dd 19 []), [(10000000, .deep false 0 64 ts_Wr t)]⟩)
noncomputable def f25P : Lp := lpC 3 (unG qz11 f25e3_0) @f25g3 lpN
theorem f25C3 : LF f25Q f25P 25 3 Try.f25 0 f25e3_0 @f25g3 fun t => t := fun R κ again t => by kernel_rfl
theorem f25k3 : LK f25Q f25P 25 Try.f25 0 := loop_okG (u := (unG qz11 f25e3_0)) (by kernel_rfl) (unG_ok fun t => by kernel_rfl) (fun R κ s => by kernel_rfl) f25C3
theorem ev25 : EV f25Q f25P 25 Try.f25 sg25 [(.sl 63 ts_LWr)] [(.sl 64 ts_Wr)] F_laws_toWrS := fun x => by kernel_rfl
noncomputable def q25 : QF := ⟨25, F_laws_toWrS, okN (n := 1) Try.func25 (by kernel_rfl) (by kernel_rfl) ⟨f25k3, trivial⟩ ev25⟩
noncomputable def F_laws_toDev (x : Qz12) : Option Qz13 :=
  Option.bind (F_laws_toByteSS x.1) fun r1 => Option.bind (F_laws_toWrS x.2.1) fun r2 => some (r1, r2, x.2.2.1, x.2.2.2)
theorem ev7 : EV [q24, q25] lpN 7 Try.f7 sg7 qz12 qz13 F_laws_toDev := fun x => by kernel_rfl
noncomputable def q7 : QF := ⟨7, F_laws_toDev, okN (n := 0) Try.func7 (by kernel_rfl) (by kernel_rfl) trivial ev7⟩
abbrev T_laws_eqByteS_4 : Type := Qz14
noncomputable def S_laws_eqByteS_4 {R : Type} (k0 : Bool → Option R) (k1 : Unit → Option R) (again : T_laws_eqByteS_4 → Option R) (t4 : T_laws_eqByteS_4) : Option R :=
  bif (decide (t4.2.2 < ((List.length t4.1 : Nat) : Int))) then if (0 : Int) ≤ t4.2.2 then if t4.2.2 < ((List.length t4.1 : Nat) : Int) then if (0 : Int) ≤ t4.2.2 then if t4.2.2 < ((List.length t4.2.1 : Nat) : Int) then bif ((rd_u8 t4.1 t4.2.2) != (rd_u8 t4.2.1 t4.2.2)) then k0 false else again (t4.1, t4.2.1, (Go.IntKind.wrap .i64 (t4.2.2 + (1 : Int)))) else none else none else none else none else k1 ()
noncomputable def L_laws_eqByteS_4 {R : Type} (k0 : Bool → Option R) (k1 : Unit → Option R) (t : T_laws_eqByteS_4) : Option R := iter (S_laws_eqByteS_4 k0 k1) FUEL t
noncomputable def F_laws_eqByteS (x : Qz15) : Option Bool :=
  bif (((List.length x.1 : Nat) : Int) != ((List.length x.2 : Nat) : Int)) then some false else L_laws_eqByteS_4 (fun x1 => some x1) (fun x2 => some true) (x.1, x.2, (0 : Int))
noncomputable def f10Q : List QF := []
def f10e4_0 (t : Qz14) : St := ⟨v_u8 t.1 :: v_u8 t.2.1 :: dd 3 (vI t.2.2 :: dd 20 []), []⟩
noncomputable def f10g4 : Gk T_laws_eqByteS_4 := fun κ => S_laws_eqByteS_4 (fun t => κ none ⟨dd 4 (vB t :: dd 21 []), []⟩) (fun t => κ (some 0) ⟨dd 26 [], []⟩)
noncomputable def f10P : Lp := lpC 4 (unG qz14 f10e4_0) @f10g4 lpN
theorem f10C4 : LF f10Q f10P 10 4 Try.f10 0 f10e4_0 @f10g4 fun t => t := fun R κ again t => by kernel_rfl
theorem f10k4 : LK f10Q f10P 10 Try.f10 0 := loop_okG (u := (unG qz14 f10e4_0)) (by kernel_rfl) (unG_ok fun t => by kernel_rfl) (fun R κ s => by kernel_rfl) f10C4
theorem ev10 : EV f10Q f10P 10 Try.f10 sg10 qz15 [.bool] F_laws_eqByteS := fun x => by kernel_rfl
noncomputable def q10 : QF := ⟨10, F_laws_eqByteS, okN (n := 1) Try.func10 (by kernel_rfl) (by kernel_rfl) ⟨f10k4, trivial⟩ ev10⟩
abbrev T_laws_eqByteSS_4 : Type := Qz16
noncomputable def S_laws_eqByteSS_4 {R : Type} (k0 : Bool → Option R) (k1 : Unit → Option R) (again : T_laws_eqByteSS_4 → Option R) (t4 : T_laws_eqByteSS_4) : Option R :=
  bif (decide (t4.2.2 < ((List.length t4.1 : Nat) : Int))) then if (0 : Int) ≤ t4.2.2 then if t4.2.2 < ((List.length t4.1 : Nat) : Int) then if (0 : Int) ≤ t4.2.2 then if t4.2.2 < ((List.length t4.2.1 : Nat) : Int) then Option.bind (F_laws_eqByteS ((rd_s_u8 t4.1 t4.2.2), (rd_s_u8 t4.2.1 t4.2.2))) fun r1 => bif (!r1) then k0 false else again (t4.1, t4.2.1, (Go.IntKind.wrap .i64 (t4.2.2 + (1 : Int)))) else none else none else none else none else k1 ()
noncomputable def L_laws_eqByteSS_4 {R : Type} (k0 : Bool → Option R) (k1 : Unit → Option R) (t : T_laws_eqByteSS_4) : Option R := iter (S_laws_eqByteSS_4 k0 k1) FUEL t
noncomputable def F_laws_eqByteSS (x : Qz17) : Option Bool :=
  bif (((List.length x.1 : Nat) : Int) != ((List.length x.2 : Nat) : Int)) then some false else L_laws_eqByteSS_4 (fun x2 => some x2) (fun x3 => some true) (x.1, x.2, (0 : Int))
noncomputable def f30Q : List QF := [q10]
def f30e4_0 (t : Qz16) : St := ⟨v_s_u8 t.1 :: v_s_u8 t.2.1 :: dd 3 (vI t.2.2 :: dd 21 []), []⟩
noncomputable def f30g4 : Gk T_laws_eqByteSS_4 := fun κ => S_laws_eqByteSS_4 (fun t => κ none ⟨dd 4 (vB t :: dd 22 []), []⟩) (fun t => κ (some 0) ⟨dd 27 [], []⟩)
noncomputable def f30P : Lp := lpC 4 (unG qz16 f30e4_0) @f30g4 lpN
theorem f30C4 : LF f30Q f30P 30 4 Try.f30 0 f30e4_0 @f30g4 fun t => t := fun R κ again t => by kernel_rfl
theorem f30k4 : LK f30Q f30P 30 Try.f30 0 := loop_okG (u := (unG qz16 f30e4_0)) (by kernel_rfl) (unG_ok fun t => by kernel_rfl) (fun R κ s => by kernel_rfl) f30C4
theorem ev30 : EV f30Q f30P 30 Try.f30 sg30 qz17 [.bool] F_laws_eqByteSS := fun x => by kernel_rfl
noncomputable def q30 : QF := ⟨30, F_laws_eqByteSS, okN (n := 1) Try.func30 (by kernel_rfl) (by kernel_rfl) ⟨f30k4, trivial⟩ ev30⟩
noncomputable def F_laws_eqWr (x : Qz18) : Option Bool :=
  bif (x.1 != x.2.2.1) then some false else Option.bind (F_laws_eqByteS (x.2.1, x.2.2.2)) fun r1 => bif (!r1) then some false else some true
theorem ev47 : EV [q10] lpN 47 Try.f47 sg47 qz18 [.bool] F_laws_eqWr := fun x => by kernel_rfl
noncomputable def q47 : QF := ⟨47, F_laws_eqWr, okN (n := 0) Try.func47 (by kernel_rfl) (by kernel_rfl) trivial ev47⟩
abbrev T_laws_eqWrS_4 : Type := Qz19
noncomputable def S_laws_eqWrS_4 {R : Type} (k0 : Bool → Option R) (k1 : Unit → Option R) (again : T_laws_eqWrS_4 → Option R) (t4 : T_laws_eqWrS_4) : Option R :=
  bif (decide (t4.2.2 < ((List.length t4.1 : Nat) : Int))) then if (0 : Int) ≤ t4.2.2 then if t4.2.2 < ((List.length t4.1 : Nat) : Int) then if (0 : Int) ≤ t4.2.2 then if t4.2.2 < ((List.length t4.2.1 : Nat) : Int) then Option.bind (F_laws_eqWr ((rd_Wr t4.1 t4.2.2).1, (rd_Wr t4.1 t4.2.2).2, (rd_Wr t4.2.1 t4.2.2).1, (rd_Wr t4.2.1 t4.2.2).2)) fun r1 => bif (!r1) then k0 false else again (t4.1, t4.2.1, (Go.IntKind.wrap .i64 (t4.2.2 + (1 : Int)))) else none else none else none else none else k1 ()
noncomputable def L_laws_eqWrS_4 {R : Type} (k0 : Bool → Option R) (k1 : Unit → Option R) (t : T_laws_eqWrS_4) : Option R := iter (S_laws_eqWrS_4 k0 k1) FUEL t
noncomputable def F_laws_eqWrS (x : Qz20) : Option Bool :=
  bif (((List.length x.1 : Nat) : Int) != ((List.length x.2 : Nat) : Int)) then some false else L_laws_eqWrS_4 (fun x2 => some x2) (fun x3 => some true) (x.1, x.2, (0 : Int))
noncomputable def f31Q : List QF := [q47]
def f31e4_0 (t : Qz19) : St := ⟨v_Wr t.1 :: v_Wr t.2.1 :: dd 3 (vI t.2.2 :: dd 21 []), []⟩
noncomputable def f31g4 : Gk T_laws_eqWrS_4 := fun κ => S_laws_eqWrS_4 (fun t => κ none ⟨dd 4 (vB t :: dd 22 []), []⟩) (fun t => κ (some 0) ⟨dd 27 [], []⟩)
noncomputable def f31P : Lp := lpC 4 (unG qz19 f31e4_0) @f31g4 lpN
theorem f31C4 : LF f31Q f31P 31 4 Try.f31 0 f31e4_0 @f31g4 fun t => t := fun R κ again t => by kernel_rfl
theorem f31k4 : LK f31Q f31P 31 Try.f31 0 := loop_okG (u := (unG qz19 f31e4_0)) (by kernel_rfl) (unG_ok fun t => by kernel_rfl) (fun R κ s => by kernel_rfl) f31C4
theorem ev31 : EV f31Q f31P 31 Try.f31 sg31 qz20 [.bool] F_laws_eqWrS := fun x => by kernel_rfl
noncomputable def q31 : QF := ⟨31, F_laws_eqWrS, okN (n := 1) Try.func31 (by kernel_rfl) (by kernel_rfl) ⟨f31k4, trivial⟩ ev31⟩
noncomputable def F_laws_eqDev (x : Qz21) : Option Bool :=
  Option.bind (F_laws_eqByteSS (x.1, x.2.2.2.2.1)) fun r1 => bif (!r1) then some false else Option.bind (F_laws_eqWrS (x.2.1, x.2.2.2.2.2.1)) fun r2 => bif (!r2) then some false else bif (x.2.2.1 != x.2.2.2.2.2.2.1) then some false else bif (!(x.2.2.2.1 == x.2.2.2.2.2.2.2)) then some false else some true
theorem ev11 : EV [q30, q31] lpN 11 Try.f11 sg11 qz21 [.bool] F_laws_eqDev := fun x => by kernel_rfl
noncomputable def q11 : QF := ⟨11, F_laws_eqDev, okN (n := 0) Try.func11 (by kernel_rfl) (by kernel_rfl) trivial ev11⟩
abbrev T_laws_markByteS_2 : Type := Qz22
noncomputable def S_laws_markByteS_2 {R : Type} (k0 : Qz10 → Option R) (again : T_laws_markByteS_2 → Option R) (t2 : T_laws_markByteS_2) : Option R :=
  bif (decide (t2.2.1 < ((List.length t2.2.2 : Nat) : Int))) then if (0 : Int) ≤ t2.2.1 then if t2.2.1 < ((List.length t2.2.2 : Nat) : Int) then again ((Go.IntKind.wrap .i64 (t2.1 + (1 : Int))), (Go.IntKind.wrap .i64 (t2.2.1 + (1 : Int))), (List.set t2.2.2 (Int.toNat t2.2.1) (Go.IntKind.wrap .u8 t2.1))) else none else none else k0 (t2.1, t2.2.2)
noncomputable def L_laws_markByteS_2 {R : Type} (k0 : Qz10 → Option R) (t : T_laws_markByteS_2) : Option R := iter (S_laws_markByteS_2 k0) FUEL t
noncomputable def F_laws_markByteS (x : Qz0) : Option Qz10 :=
  L_laws_markByteS_2 (fun x1 => some (x1.1, x1.2)) (x.2, (0 : Int), x.1)
noncomputable def f13Q : List QF := []
def f13e2_0 (t : Qz22) : St := ⟨.own 10000000 :: vI t.1 :: dd 3 (vI t.2.1 :: dd 14 []), [(10000000, .deep true 1 5 ts_u8 t.2.2)]⟩
noncomputable def f13g2 : Gk T_laws_markByteS_2 := fun κ => S_laws_markByteS_2 (fun t => κ (some 0) ⟨.own 10000000 :: vI t.1 :: dd 18 [], [(10000000, .deep true 1 5 ts_u8 t.2)]⟩)
noncomputable def f13P : Lp := lpC 2 (unG qz22 f13e2_0) @f13g2 lpN
theorem f13C2 : LF f13Q f13P 13 2 Try.f13 0 f13e2_0 @f13g2 fun t => t := fun R κ again t => by kernel_rfl
theorem f13k2 : LK f13Q f13P 13 Try.f13 0 := loop_okG (u := (unG qz22 f13e2_0)) (by kernel_rfl) (unG_ok fun t => by kernel_rfl) (fun R κ s => by kernel_rfl) f13C2
theorem ev13 : EV f13Q f13P 13 Try.f13 sg13 qz0 qz10 F_laws_markByteS := fun x => by kernel_rfl
noncomputable def q13 : QF := ⟨13, F_laws_markByteS, okN (n := 1) Try.func13 (by kernel_rfl) (by kernel_rfl) ⟨f13k2, trivial⟩ ev13⟩
abbrev T_laws_markByteSS_2 : Type := Qz23
noncomputable def S_laws_markByteSS_2 {R : Type} (k0 : Qz24 → Option R) (again : T_laws_markByteSS_2 → Option R) (t2 : T_laws_markByteSS_2) : Option R :=
  bif (decide (t2.2.1 < ((List.length t2.2.2 : Nat) : Int))) then if (0 : Int) ≤ t2.2.1 then if t2.2.1 < ((List.length t2.2.2 : Nat) : Int) then Option.bind (F_laws_markByteS ((rd_s_u8 t2.2.2 t2.2.1), t2.1)) fun r1 => again (r1.1, (Go.IntKind.wrap .i64 (t2.2.1 + (1 : Int))), (List.set t2.2.2 (Int.toNat t2.2.1) r1.2)) else none else none else k0 (t2.1, t2.2.2)
noncomputable def L_laws_markByteSS_2 {R : Type} (k0 : Qz24 → Option R) (t : T_laws_markByteSS_2) : Option R := iter (S_laws_markByteSS_2 k0) FUEL t
noncomputable def F_laws_markByteSS (x : Qz3) : Option Qz24 :=
  L_laws_markByteSS_2 (fun x2 => some (x2.1, x2.2)) (x.2, (0 : Int), x.1)
noncomputable def f32Q : List QF := [q13]
def f32e2_0 (t : Qz23) : St := ⟨.own 10000000 :: vI t.1 :: dd 3 (vI t.2.1 :: dd 13 []), [(10000000, .deep true 1 29 ts_s_u8 t.2.2)]⟩
noncomputable def f32g2 : Gk T_laws_markByteSS_2 := fun κ => S_laws_markByteSS_2 (fun t => κ (some 0) ⟨.own 10000000 :: vI t.1 :: dd 17 [], [(10000000, .deep true 1 29 ts_s_u8 t.2)]⟩)
noncomputable def f32P : Lp := lpC 2 (unG qz23 f32e2_0) @f32g2 lpN
theorem f32C2 : LF f32Q f32P 32 2 Try.f32 0 f32e2_0 @f32g2 fun t => t := fun R κ again t => by kernel_rfl
theorem f32k2 : LK f32Q f32P 32 Try.f32 0 := loop_okG (u := (unG qz23 f32e2_0)) (by kernel_rfl) (unG_ok fun t => by kernel_rfl) (fun R κ s => by kernel_rfl) f32C2
theorem ev32 : EV f32Q f32P 32 Try.f32 sg32 qz3 qz24 F_laws_markByteSS := fun x => by kernel_rfl
noncomputable def q32 : QF := ⟨32, F_laws_markByteSS, okN (n := 1) Try.func32 (by kernel_rfl) (by kernel_rfl) ⟨f32k2, trivial⟩ ev32⟩
abbrev T_laws_markWrS_2 : Type := Qz25
noncomputable def S_laws_markWrS_2 {R : Type} (k0 : Qz26 → Option R) (again : T_laws_markWrS_2 → Option R) (t2 : T_laws_markWrS_2) : Option R :=
  bif (decide (t2.2.1 < ((List.length t2.2.2 : Nat) : Int))) then if (0 : Int) ≤ t2.2.1 then if t2.2.1 < ((List.length t2.2.2 : Nat) : Int) then if (0 : Int) ≤ t2.2.1 then if t2.2.1 < ((List.length (List.set t2.2.2 (Int.toNat t2.2.1) (t2.1, (rd_Wr t2.2.2 t2.2.1).2)) : Nat) : Int) then Option.bind (F_laws_markByteS ((rd_Wr (List.set t2.2.2 (Int.toNat t2.2.1) (t2.1, (rd_Wr t2.2.2 t2.2.1).2)) t2.2.1).2, (Go.IntKind.wrap .i64 (t2.1 + (1 : Int))))) fun r1 => again (r1.1, (Go.IntKind.wrap .i64 (t2.2.1 + (1 : Int))), (List.set (List.set t2.2.2 (Int.toNat t2.2.1) (t2.1, (rd_Wr t2.2.2 t2.2.1).2)) (Int.toNat t2.2.1) ((rd_Wr (List.set t2.2.2 (Int.toNat t2.2.1) (t2.1, (rd_Wr t2.2.2 t2.2.1).2)) t2.2.1).1, r1.2))) else none else none else none else none else k0 (t2.1, t2.2.2)
noncomputable def L_laws_markWrS_2 {R : Type} (k0 : Qz26 → Option R) (t : T_laws_markWrS_2) : Option R := iter (S_laws_markWrS_2 k0) FUEL t
noncomputable def F_laws_markWrS (x : Qz27) : Option Qz26 :=
  L_laws_markWrS_2 (fun x2 => some (x2.1, x2.2)) (x.2, (0 : Int), x.1)
noncomputable def f33Q : List QF := [q13]
def f33e2_0 (t : Qz25) : St := ⟨.own 10000000 :: vI t.1 :: dd 3 (vI t.2.1 :: dd 21 []), [(10000000, .deep true 1 64 ts_Wr t.2.2)]⟩
noncomputable def f33g2 : Gk T_laws_markWrS_2 := fun κ => S_laws_markWrS_2 (fun t => κ (some 0) ⟨.own 10000000 :: vI t.1 :: dd 25 [], [(10000000, .deep true 1 64 ts_Wr t.2)]⟩)
noncomputable def f33P : Lp := lpC 2 (unG qz25 f33e2_0) @f33g2 lpN
theorem f33C2 : LF f33Q f33P 33 2 Try.f33 0 f33e2_0 @f33g2 fun t => t := fun R κ again t => by kernel_rfl
theorem f33k2 : LK f33Q f33P 33 Try.f33 0 := loop_okG (u := (unG qz25 f33e2_0)) (by kernel_rfl) (unG_ok fun t => by kernel_rfl) (fun R κ s => by kernel_rfl) f33C2
theorem ev33 : EV f33Q f33P 33 Try.f33 sg33 qz27 qz26 F_laws_markWrS := fun x => by kernel_rfl
noncomputable def q33 : QF := ⟨33, F_laws_markWrS, okN (n := 1) Try.func33 (by kernel_rfl) (by kernel_rfl) ⟨f33k2, trivial⟩ ev33⟩
noncomputable def F_laws_markDev (x : Qz28) : Option Qz29 :=
  Option.bind (F_laws_markByteSS (x.1, x.2.2.2.2)) fun r1 => Option.bind (F_laws_markWrS (x.2.1, r1.1)) fun r2 => some (r2.1, r1.2, r2.2)
theorem ev12 : EV [q32, q33] lpN 12 Try.f12 sg12 qz28 qz29 F_laws_markDev := fun x => by kernel_rfl
noncomputable def q12 : QF := ⟨12, F_laws_markDev, okN (n := 0) Try.func12 (by kernel_rfl) (by kernel_rfl) trivial ev12⟩
abbrev T_spec_l2Copy_3 : Type := Qz30 ⊕ Qz31
noncomputable def S_spec_l2Copy_3 {R : Type} (k0 : Qz32 → Option R) (k1 : Qz33 → Option R) (again : T_spec_l2Copy_3 → Option R) : T_spec_l2Copy_3 → Option R
  | .inl t3 => bif (decide (t3.1 < ((List.length t3.2.1 : Nat) : Int))) then if (0 : Int) ≤ t3.1 then if t3.1 < ((List.length t3.2.1 : Nat) : Int) then if (List.length ([] : List E_u8) + List.length (rd_s_u8 t3.2.1 t3.1)) * 1 < 140737488355328 then if List.length ([(([] : List E_u8) ++ (rd_s_u8 t3.2.1 t3.1))] : List E_s_u8) * 24 < 140737488355328 then again (Sum.inr ((Go.IntKind.wrap .i64 (t3.1 + (1 : Int))), t3.2.1, t3.2.2.1, t3.2.2.2.1, t3.2.2.2.2.1, t3.2.2.2.2.2.1, t3.2.2.2.2.2.2.1, t3.2.2.2.2.2.2.2.1, t3.2.2.2.2.2.2.2.2, ([(([] : List E_u8) ++ (rd_s_u8 t3.2.1 t3.1))] : List E_s_u8))) else none else none else none else none else k0 (t3.2.1, t3.2.2.1, t3.2.2.2.1, t3.2.2.2.2.1, t3.2.2.2.2.2.1, t3.2.2.2.2.2.2.1, t3.2.2.2.2.2.2.2.1, t3.2.2.2.2.2.2.2.2)
  | .inr t3 => bif (decide (t3.1 < ((List.length t3.2.1 : Nat) : Int))) then if (0 : Int) ≤ t3.1 then if t3.1 < ((List.length t3.2.1 : Nat) : Int) then if (List.length ([] : List E_u8) + List.length (rd_s_u8 t3.2.1 t3.1)) * 1 < 140737488355328 then if (List.length t3.2.2.2.2.2.2.2.2.2 + List.length ([(([] : List E_u8) ++ (rd_s_u8 t3.2.1 t3.1))] : List E_s_u8)) * 24 < 140737488355328 then again (Sum.inr ((Go.IntKind.wrap .i64 (t3.1 + (1 : Int))), t3.2.1, t3.2.2.1, t3.2.2.2.1, t3.2.2.2.2.1, t3.2.2.2.2.2.1, t3.2.2.2.2.2.2.1, t3.2.2.2.2.2.2.2.1, t3.2.2.2.2.2.2.2.2.1, (t3.2.2.2.2.2.2.2.2.2 ++ ([(([] : List E_u8) ++ (rd_s_u8 t3.2.1 t3.1))] : List E_s_u8)))) else none else none else none else none else k1 (t3.2.1, t3.2.2.1, t3.2.2.2.1, t3.2.2.2.2.1, t3.2.2.2.2.2.1, t3.2.2.2.2.2.2.1, t3.2.2.2.2.2.2.2.1, t3.2.2.2.2.2.2.2.2.1, t3.2.2.2.2.2.2.2.2.2)
noncomputable def L_spec_l2Copy_3 {R : Type} (k0 : Qz32 → Option R) (k1 : Qz33 → Option R) (t : T_spec_l2Copy_3) : Option R := iter (S_spec_l2Copy_3 k0 k1) FUEL t
abbrev T_spec_l2Copy_7 : Type := Qz30 ⊕ Qz34 ⊕ Qz31 ⊕ Qz35
noncomputable def S_spec_l2Copy_7 {R : Type} (k0 : Qz36 → Option R) (k1 : Qz37 → Option R) (k2 : Qz38 → Option R) (k3 : Qz39 → Option R) (again : T_spec_l2Copy_7 → Option R) : T_spec_l2Copy_7 → Option R
  | .inl t7 => bif (decide (t7.1 < ((List.length t7.2.2.1 : Nat) : Int))) then if (0 : Int) ≤ t7.1 then if t7.1 < ((List.length t7.2.2.1 : Nat) : Int) then if (0 : Int) ≤ t7.1 then if t7.1 < ((List.length t7.2.2.1 : Nat) : Int) then if (List.length ([] : List E_u8) + List.length ((rd_Wr t7.2.2.1 t7.1).2)) * 1 < 140737488355328 then if List.length ([((rd_Wr t7.2.2.1 t7.1).1, (([] : List E_u8) ++ (rd_Wr t7.2.2.1 t7.1).2))] : List E_Wr) * 32 < 140737488355328 then again (Sum.inr (Sum.inl ((Go.IntKind.wrap .i64 (t7.1 + (1 : Int))), t7.2.1, t7.2.2.1, t7.2.2.2.1, t7.2.2.2.2.1, t7.2.2.2.2.2.1, t7.2.2.2.2.2.2.1, t7.2.2.2.2.2.2.2.1, t7.2.2.2.2.2.2.2.2, ([((rd_Wr t7.2.2.1 t7.1).1, (([] : List E_u8) ++ (rd_Wr t7.2.2.1 t7.1).2))] : List E_Wr)))) else none else none else none else none else none else none else k0 (t7.2.2.2.2.2.1, t7.2.2.2.2.2.2.1, t7.2.2.2.2.2.2.2.1, t7.2.2.2.2.2.2.2.2)
  | .inr (.inl t7) => bif (decide (t7.1 < ((List.length t7.2.2.1 : Nat) : Int))) then if (0 : Int) ≤ t7.1 then if t7.1 < ((List.length t7.2.2.1 : Nat) : Int) then if (0 : Int) ≤ t7.1 then if t7.1 < ((List.length t7.2.2.1 : Nat) : Int) then if (List.length ([] : List E_u8) + List.length ((rd_Wr t7.2.2.1 t7.1).2)) * 1 < 140737488355328 then if (List.length t7.2.2.2.2.2.2.2.2.2 + List.length ([((rd_Wr t7.2.2.1 t7.1).1, (([] : List E_u8) ++ (rd_Wr t7.2.2.1 t7.1).2))] : List E_Wr)) * 32 < 140737488355328 then again (Sum.inr (Sum.inl ((Go.IntKind.wrap .i64 (t7.1 + (1 : Int))), t7.2.1, t7.2.2.1, t7.2.2.2.1, t7.2.2.2.2.1, t7.2.2.2.2.2.1, t7.2.2.2.2.2.2.1, t7.2.2.2.2.2.2.2.1, t7.2.2.2.2.2.2.2.2.1, (t7.2.2.2.2.2.2.2.2.2 ++ ([((rd_Wr t7.2.2.1 t7.1).1, (([] : List E_u8) ++ (rd_Wr t7.2.2.1 t7.1).2))] : List E_Wr))))) else none else none else none else none else none else none else k1 (t7.2.2.2.2.2.1, t7.2.2.2.2.2.2.1, t7.2.2.2.2.2.2.2.1, t7.2.2.2.2.2.2.2.2.1, t7.2.2.2.2.2.2.2.2.2)
  | .inr (.inr (.inl t7)) => bif (decide (t7.1 < ((List.length t7.2.2.1 : Nat) : Int))) then if (0 : Int) ≤ t7.1 then if t7.1 < ((List.length t7.2.2.1 : Nat) : Int) then if (0 : Int) ≤ t7.1 then if t7.1 < ((List.length t7.2.2.1 : Nat) : Int) then if (List.length ([] : List E_u8) + List.length ((rd_Wr t7.2.2.1 t7.1).2)) * 1 < 140737488355328 then if List.length ([((rd_Wr t7.2.2.1 t7.1).1, (([] : List E_u8) ++ (rd_Wr t7.2.2.1 t7.1).2))] : List E_Wr) * 32 < 140737488355328 then again (Sum.inr (Sum.inr (Sum.inr ((Go.IntKind.wrap .i64 (t7.1 + (1 : Int))), t7.2.1, t7.2.2.1, t7.2.2.2.1, t7.2.2.2.2.1, t7.2.2.2.2.2.1, t7.2.2.2.2.2.2.1, t7.2.2.2.2.2.2.2.1, t7.2.2.2.2.2.2.2.2.1, t7.2.2.2.2.2.2.2.2.2, ([((rd_Wr t7.2.2.1 t7.1).1, (([] : List E_u8) ++ (rd_Wr t7.2.2.1 t7.1).2))] : List E_Wr))))) else none else none else none else none else none else none else k2 (t7.2.2.2.2.2.1, t7.2.2.2.2.2.2.1, t7.2.2.2.2.2.2.2.1, t7.2.2.2.2.2.2.2.2.1, t7.2.2.2.2.2.2.2.2.2)
  | .inr (.inr (.inr t7)) => bif (decide (t7.1 < ((List.length t7.2.2.1 : Nat) : Int))) then if (0 : Int) ≤ t7.1 then if t7.1 < ((List.length t7.2.2.1 : Nat) : Int) then if (0 : Int) ≤ t7.1 then if t7.1 < ((List.length t7.2.2.1 : Nat) : Int) then if (List.length ([] : List E_u8) + List.length ((rd_Wr t7.2.2.1 t7.1).2)) * 1 < 140737488355328 then if (List.length t7.2.2.2.2.2.2.2.2.2.2 + List.length ([((rd_Wr t7.2.2.1 t7.1).1, (([] : List E_u8) ++ (rd_Wr t7.2.2.1 t7.1).2))] : List E_Wr)) * 32 < 140737488355328 then again (Sum.inr (Sum.inr (Sum.inr ((Go.IntKind.wrap .i64 (t7.1 + (1 : Int))), t7.2.1, t7.2.2.1, t7.2.2.2.1, t7.2.2.2.2.1, t7.2.2.2.2.2.1, t7.2.2.2.2.2.2.1, t7.2.2.2.2.2.2.2.1, t7.2.2.2.2.2.2.2.2.1, t7.2.2.2.2.2.2.2.2.2.1, (t7.2.2.2.2.2.2.2.2.2.2 ++ ([((rd_Wr t7.2.2.1 t7.1).1, (([] : List E_u8) ++ (rd_Wr t7.2.2.1 t7.1).2))] : List E_Wr)))))) else none else none else none else none else none else none else k3 (t7.2.2.2.2.2.1, t7.2.2.2.2.2.2.1, t7.2.2.2.2.2.2.2.1, t7.2.2.2.2.2.2.2.2.1, t7.2.2.2.2.2.2.2.2.2.1, t7.2.2.2.2.2.2.2.2.2.2)
noncomputable def L_spec_l2Copy_7 {R : Type} (k0 : Qz36 → Option R) (k1 : Qz37 → Option R) (k2 : Qz38 → Option R) (k3 : Qz39 → Option R) (t : T_spec_l2Copy_7) : Option R := iter (S_spec_l2Copy_7 k0 k1 k2 k3) FUEL t
noncomputable def F_spec_l2Copy (x : Qz13) : Option Qz13 :=
  L_spec_l2Copy_3 (fun x1 => L_spec_l2Copy_7 (fun x2 => some (([] : List E_s_u8), ([] : List E_Wr), x2.2.2.1, x2.2.2.2)) (fun x3 => some (([] : List E_s_u8), x3.2.2.2.2, x3.2.2.1, x3.2.2.2.1)) (fun x4 => some (x4.2.2.2.2, ([] : List E_Wr), x4.2.2.1, x4.2.2.2.1)) (fun x5 => some (x5.2.2.2.2.1, x5.2.2.2.2.2, x5.2.2.1, x5.2.2.2.1)) (Sum.inl ((0 : Int), x1.1, x1.2.1, x1.2.2.1, x1.2.2.2.1, x1.2.2.2.2.1, x1.2.2.2.2.2.1, x1.2.2.2.2.2.2.1, x1.2.2.2.2.2.2.2))) (fun x6 => L_spec_l2Copy_7 (fun x7 => some (([] : List E_s_u8), ([] : List E_Wr), x7.2.2.1, x7.2.2.2)) (fun x8 => some (([] : List E_s_u8), x8.2.2.2.2, x8.2.2.1, x8.2.2.2.1)) (fun x9 => some (x9.2.2.2.2, ([] : List E_Wr), x9.2.2.1, x9.2.2.2.1)) (fun x10 => some (x10.2.2.2.2.1, x10.2.2.2.2.2, x10.2.2.1, x10.2.2.2.1)) (Sum.inr (Sum.inr (Sum.inl ((0 : Int), x6.1, x6.2.1, x6.2.2.1, x6.2.2.2.1, x6.2.2.2.2.1, x6.2.2.2.2.2.1, x6.2.2.2.2.2.2.1, x6.2.2.2.2.2.2.2.1, x6.2.2.2.2.2.2.2.2))))) (Sum.inl ((0 : Int), x.1, x.2.1, x.2.2.1, x.2.2.2, (0 : Int), false, x.2.2.1, x.2.2.2))
noncomputable def f34Q : List QF := []
def f34e3_0 (t : Qz30) : St := ⟨.dead :: .box 1 0 :: .box 2 0 :: .box 3 0 :: vI t.1 :: dd 53 [], [(1, .box [v_s_u8 t.2.1, v_Wr t.2.2.1, vI t.2.2.2.1, vB t.2.2.2.2.1]), (2, .box [.nils, .nils, vI t.2.2.2.2.2.1, vB t.2.2.2.2.2.2.1]), (3, .box [.nils, .nils, vI t.2.2.2.2.2.2.2.1, vB t.2.2.2.2.2.2.2.2])]⟩
theorem f34v3_0 : ∀ s t, unG qz30 f34e3_0 s = some t → f34e3_0 t = s := unG_ok fun t => by kernel_rfl
def f34e3_1 (t : Qz31) : St := ⟨.dead :: .box 1 0 :: .box 2 0 :: .box 3 0 :: vI t.1 :: dd 53 [], [(1, .box [v_s_u8 t.2.1, v_Wr t.2.2.1, vI t.2.2.2.1, vB t.2.2.2.2.1]), (2, .box [.nils, .nils, vI t.2.2.2.2.2.1, vB t.2.2.2.2.2.2.1]), (3, .box [.own 10000000, .nils, vI t.2.2.2.2.2.2.2.1, vB t.2.2.2.2.2.2.2.2.1]), (10000000, .root true 29 ts_s_u8 t.2.2.2.2.2.2.2.2.2)]⟩
theorem f34v3_1 : ∀ s t, unG qz31 f34e3_1 s = some t → f34e3_1 t = s := unG_ok fun t => by kernel_rfl
def f34e3r0 : (Qz30 ⊕ Qz31) → St := Sum.elim f34e3_0 f34e3_1
def f34u3r0 (s : St) : Option (Qz30 ⊕ Qz31) := ((unG qz30 f34e3_0 s).map Sum.inl).or (((unG qz31 f34e3_1) s).map Sum.inr)
theorem f34v3r0 : ∀ s t, f34u3r0 s = some t → f34e3r0 t = s := or_un f34v3_0 f34v3_1
noncomputable def f34g3 : Gk T_spec_l2Copy_3 := fun κ => S_spec_l2Copy_3 (fun t => κ (some 0) ⟨.dead :: .box 1 0 :: .box 2 0 :: .box 3 0 :: dd 54 [], [(1, .box [v_s_u8 t.1, v_Wr t.2.1, vI t.2.2.1, vB t.2.2.2.1]), (2, .box [.nils, .nils, vI t.2.2.2.2.1, vB t.2.2.2.2.2.1]), (3, .box [.nils, .nils, vI t.2.2.2.2.2.2.1, vB t.2.2.2.2.2.2.2])]⟩) (fun t => κ (some 0) ⟨.dead :: .box 1 0 :: .box 2 0 :: .box 3 0 :: dd 54 [], [(1, .box [v_s_u8 t.1, v_Wr t.2.1, vI t.2.2.1, vB t.2.2.2.1]), (2, .box [.nils, .nils, vI t.2.2.2.2.1, vB t.2.2.2.2.2.1]), (3, .box [.own 10000000, .nils, vI t.2.2.2.2.2.2.1, vB t.2.2.2.2.2.2.2.1]), (10000000, .root true 29 ts_s_u8 t.2.2.2.2.2.2.2.2)]⟩)
def f34e7_0 (t : Qz30) : St := ⟨.dead :: .box 1 0 :: .box 2 0 :: .box 3 0 :: .dead :: vI t.1 :: dd 52 [], [(1, .box [v_s_u8 t.2.1, v_Wr t.2.2.1, vI t.2.2.2.1, vB t.2.2.2.2.1]), (2, .box [.nils, .nils, vI t.2.2.2.2.2.1, vB t.2.2.2.2.2.2.1]), (3, .box [.nils, .nils, vI t.2.2.2.2.2.2.2.1, vB t.2.2.2.2.2.2.2.2])]⟩
theorem f34v7_0 : ∀ s t, unG qz30 f34e7_0 s = some t → f34e7_0 t = s := unG_ok fun t => by kernel_rfl
def f34e7_1 (t : Qz34) : St := ⟨.dead :: .box 1 0 :: .box 2 0 :: .box 3 0 :: .dead :: vI t.1 :: dd 52 [], [(1, .box [v_s_u8 t.2.1, v_Wr t.2.2.1, vI t.2.2.2.1, vB t.2.2.2.2.1]), (2, .box [.nils, .nils, vI t.2.2.2.2.2.1, vB t.2.2.2.2.2.2.1]), (3, .box [.nils, .own 10000000, vI t.2.2.2.2.2.2.2.1, vB t.2.2.2.2.2.2.2.2.1]), (10000000, .root true 64 ts_Wr t.2.2.2.2.2.2.2.2.2)]⟩
theorem f34v7_1 : ∀ s t, unG qz34 f34e7_1 s = some t → f34e7_1 t = s := unG_ok fun t => by kernel_rfl
def f34e7_2 (t : Qz31) : St := ⟨.dead :: .box 1 0 :: .box 2 0 :: .box 3 0 :: .dead :: vI t.1 :: dd 52 [], [(1, .box [v_s_u8 t.2.1, v_Wr t.2.2.1, vI t.2.2.2.1, vB t.2.2.2.2.1]), (2, .box [.nils, .nils, vI t.2.2.2.2.2.1, vB t.2.2.2.2.2.2.1]), (3, .box [.own 10000000, .nils, vI t.2.2.2.2.2.2.2.1, vB t.2.2.2.2.2.2.2.2.1]), (10000000, .root true 29 ts_s_u8 t.2.2.2.2.2.2.2.2.2)]⟩
theorem f34v7_2 : ∀ s t, unG qz31 f34e7_2 s = some t → f34e7_2 t = s := unG_ok fun t => by kernel_rfl
def f34e7_3 (t : Qz35) : St := ⟨.dead :: .box 1 0 :: .box 2 0 :: .box 3 0 :: .dead :: vI t.1 :: dd 52 [], [(1, .box [v_s_u8 t.2.1, v_Wr t.2.2.1, vI t.2.2.2.1, vB t.2.2.2.2.1]), (2, .box [.nils, .nils, vI t.2.2.2.2.2.1, vB t.2.2.2.2.2.2.1]), (3, .box [.own 10000000, .own 10000001, vI t.2.2.2.2.2.2.2.1, vB t.2.2.2.2.2.2.2.2.1]), (10000000, .root true 29 ts_s_u8 t.2.2.2.2.2.2.2.2.2.1), (10000001, .root true 64 ts_Wr t.2.2.2.2.2.2.2.2.2.2)]⟩
theorem f34v7_3 : ∀ s t, unG qz35 f34e7_3 s = some t → f34e7_3 t = s := unG_ok fun t => by kernel_rfl
def f34e7r2 : (Qz31 ⊕ Qz35) → St := Sum.elim f34e7_2 f34e7_3
def f34u7r2 (s : St) : Option (Qz31 ⊕ Qz35) := ((unG qz31 f34e7_2 s).map Sum.inl).or (((unG qz35 f34e7_3) s).map Sum.inr)
theorem f34v7r2 : ∀ s t, f34u7r2 s = some t → f34e7r2 t = s := or_un f34v7_2 f34v7_3
def f34e7r1 : (Qz34 ⊕ Qz31 ⊕ Qz35) → St := Sum.elim f34e7_1 f34e7r2
def f34u7r1 (s : St) : Option (Qz34 ⊕ Qz31 ⊕ Qz35) := ((unG qz34 f34e7_1 s).map Sum.inl).or ((f34u7r2 s).map Sum.inr)
theorem f34v7r1 : ∀ s t, f34u7r1 s = some t → f34e7r1 t = s := or_un f34v7_1 f34v7r2
def f34e7r0 : (Qz30 ⊕ Qz34 ⊕ Qz31 ⊕ Qz35) → St := Sum.elim f34e7_0 f34e7r1
def f34u7r0 (s : St) : Option (Qz30 ⊕ Qz34 ⊕ Qz31 ⊕ Qz35) := ((unG qz30 f34e7_0 s).map Sum.inl).or ((f34u7r1 s).map Sum.inr)
theorem f34v7r0 : ∀ s t, f34u7r0 s = some t → f34e7r0 t = s := or_un f34v7_0 f34v7r1
noncomputable def f34g7 : Gk T_spec_l2Copy_7 := fun κ => S_spec_l2Copy_7 (fun t => κ (some 2) ⟨dd 2 (.box 2 0 :: .box 3 0 :: dd 54 []), [(2, .box [.nils, .nils, vI t.1, vB t.2.1]), (3, .box [.nils, .nils, vI t.2.2.1, vB t.2.2.2])]⟩) (fun t => κ (some 2) ⟨dd 2 (.box 2 0 :: .box 3 0 :: dd 54 []), [(2, .box [.nils, .nils, vI t.1, vB t.2.1]), (3, .box [.nils, .own 10000000, vI t.2.2.1, vB t.2.2.2.1]), (10000000, .root true 64 ts_Wr t.2.2.2.2)]⟩) (fun t => κ (some 2) ⟨dd 2 (.box 2 0 :: .box 3 0 :: dd 54 []), [(2, .box [.nils, .nils, vI t.1, vB t.2.1]), (3, .box [.own 10000000, .nils, vI t.2.2.1, vB t.2.2.2.1]), (10000000, .root true 29 ts_s_u8 t.2.2.2.2)]⟩) (fun t => κ (some 2) ⟨dd 2 (.box 2 0 :: .box 3 0 :: dd 54 []), [(2, .box [.nils, .nils, vI t.1, vB t.2.1]), (3, .box [.own 10000000, .own 10000001, vI t.2.2.1, vB t.2.2.2.1]), (10000000, .root true 29 ts_s_u8 t.2.2.2.2.1), (10000001, .root true 64 ts_Wr t.2.2.2.2.2)]⟩)
noncomputable def f34P : Lp := lpC 7 f34u7r0 @f34g7 (lpC 3 f34u3r0 @f34g3 lpN)
theorem f34C3_0 : LF f34Q f34P 34 3 Try.f34 0 f34e3r0 @f34g3 fun v : Qz30 => .inl v := fun R κ again v => by kernel_rfl
theorem f34C3_1 : LF f34Q f34P 34 3 Try.f34 0 f34e3r0 @f34g3 fun v : Qz31 => .inr v := fun R κ again v => by kernel_rfl
theorem f34C3 : LF f34Q f34P 34 3 Try.f34 0 f34e3r0 @f34g3 fun t => t := (LC.sum f34C3_0 f34C3_1)
theorem f34k3 : LK f34Q f34P 34 Try.f34 0 := loop_okG (u := f34u3r0) (by kernel_rfl) f34v3r0 (fun R κ s => by kernel_rfl) f34C3
theorem f34C7_0 : LF f34Q f34P 34 7 Try.f34 1 f34e7r0 @f34g7 fun v : Qz30 => .inl v := fun R κ again v => by kernel_rfl
theorem f34C7_1 : LF f34Q f34P 34 7 Try.f34 1 f34e7r0 @f34g7 fun v : Qz34 => .inr (.inl v) := fun R κ again v => by kernel_rfl
theorem f34C7_2 : LF f34Q f34P 34 7 Try.f34 1 f34e7r0 @f34g7 fun v : Qz31 => .inr (.inr (.inl v)) := fun R κ again v => by kernel_rfl
theorem f34C7_3 : LF f34Q f34P 34 7 Try.f34 1 f34e7r0 @f34g7 fun v : Qz35 => .inr (.inr (.inr v)) := fun R κ again v => by kernel_rfl
theorem f34C7 : LF f34Q f34P 34 7 Try.f34 1 f34e7r0 @f34g7 fun t => t := (LC.sum f34C7_0 (LC.sum f34C7_1 (LC.sum f34C7_2 f34C7_3)))
theorem f34k7 : LK f34Q f34P 34 Try.f34 1 := loop_okG (u := f34u7r0) (by kernel_rfl) f34v7r0 (fun R κ s => by kernel_rfl) f34C7
theorem ev34 : EV f34Q f34P 34 Try.f34 sg34 qz13 qz13 F_spec_l2Copy := fun x => by kernel_rfl
noncomputable def q34 : QF := ⟨34, F_spec_l2Copy, okN (n := 2) Try.func34 (by kernel_rfl) (by kernel_rfl) ⟨f34k3, f34k7, trivial⟩ ev34⟩
noncomputable def F_spec_l1In (x : Qz40) : Option Bool :=
  Option.bind (bif (decide (x.1 ≥ x.2.1)) then some (decide (x.1 ≤ x.2.2)) else some false) fun u1 => some u1
theorem ev36 : EV [] lpN 36 Try.f36 sg36 qz40 [.bool] F_spec_l1In := fun x => by kernel_rfl
noncomputable def q36 : QF := ⟨36, F_spec_l1In, okN (n := 0) Try.func36 (by kernel_rfl) (by kernel_rfl) trivial ev36⟩
abbrev T_spec_DevOk_2 : Type := Qz41
noncomputable def S_spec_DevOk_2 {R : Type} (k0 : Qz42 → Option R) (k1 : Qz13 → Option R) (again : T_spec_DevOk_2 → Option R) (t2 : T_spec_DevOk_2) : Option R :=
  bif (decide (t2.1 < ((List.length t2.2.1 : Nat) : Int))) then if (0 : Int) ≤ t2.1 then if t2.1 < ((List.length t2.2.1 : Nat) : Int) then bif (decide (((List.length (rd_s_u8 t2.2.1 t2.1) : Nat) : Int) > (80 : Int))) then k0 (false, t2.2.1, t2.2.2.1, t2.2.2.2.1, t2.2.2.2.2) else again ((Go.IntKind.wrap .i64 (t2.1 + (1 : Int))), t2.2.1, t2.2.2.1, t2.2.2.2.1, t2.2.2.2.2) else none else none else k1 (t2.2.1, t2.2.2.1, t2.2.2.2.1, t2.2.2.2.2)
noncomputable def L_spec_DevOk_2 {R : Type} (k0 : Qz42 → Option R) (k1 : Qz13 → Option R) (t : T_spec_DevOk_2) : Option R := iter (S_spec_DevOk_2 k0 k1) FUEL t
abbrev T_spec_DevOk_7 : Type := Qz41
noncomputable def S_spec_DevOk_7 {R : Type} (k0 : Qz42 → Option R) (k1 : Qz13 → Option R) (again : T_spec_DevOk_7 → Option R) (t7 : T_spec_DevOk_7) : Option R :=
  bif (decide (t7.1 < ((List.length t7.2.2.1 : Nat) : Int))) then if (0 : Int) ≤ t7.1 then if t7.1 < ((List.length t7.2.2.1 : Nat) : Int) then Option.bind (F_spec_l1In ((rd_Wr t7.2.2.1 t7.1).1, (0 : Int), (Go.IntKind.wrap .i64 (((List.length t7.2.1 : Nat) : Int) - (1 : Int))))) fun r3 => Option.bind (bif (!r3) then some true else if (0 : Int) ≤ t7.1 then if t7.1 < ((List.length t7.2.2.1 : Nat) : Int) then some (decide (((List.length ((rd_Wr t7.2.2.1 t7.1).2) : Nat) : Int) > (80 : Int))) else none else none) fun u4 => bif u4 then k0 (false, t7.2.1, t7.2.2.1, t7.2.2.2.1, t7.2.2.2.2) else again ((Go.IntKind.wrap .i64 (t7.1 + (1 : Int))), t7.2.1, t7.2.2.1, t7.2.2.2.1, t7.2.2.2.2) else none else none else k1 (t7.2.1, t7.2.2.1, t7.2.2.2.1, t7.2.2.2.2)
noncomputable def L_spec_DevOk_7 {R : Type} (k0 : Qz42 → Option R) (k1 : Qz13 → Option R) (t : T_spec_DevOk_7) : Option R := iter (S_spec_DevOk_7 k0 k1) FUEL t
noncomputable def F_spec_DevOk (x : Qz13) : Option Bool :=
  L_spec_DevOk_2 (fun x1 => some x1.1) (fun x2 => L_spec_DevOk_7 (fun x5 => some x5.1) (fun x6 => Option.bind (F_spec_l1In (((List.length x6.1 : Nat) : Int), (1 : Int), (60 : Int))) fun r7 => Option.bind (bif r7 then some (decide (((List.length x6.2.1 : Nat) : Int) ≤ (60 : Int))) else some false) fun u8 => Option.bind (bif u8 then Option.bind (F_spec_l1In (x6.2.2.1, (-1 : Int), (1000 : Int))) fun r10 => some r10 else some false) fun u9 => some u9) ((0 : Int), x2.1, x2.2.1, x2.2.2.1, x2.2.2.2)) ((0 : Int), x.1, x.2.1, x.2.2.1, x.2.2.2)
noncomputable def f35Q : List QF := [q36]
def f35e2_0 (t : Qz41) : St := ⟨.dead :: .box 1 0 :: .dead :: vI t.1 :: dd 59 [], [(1, .box [v_s_u8 t.2.1, v_Wr t.2.2.1, vI t.2.2.2.1, vB t.2.2.2.2])]⟩
noncomputable def f35g2 : Gk T_spec_DevOk_2 := fun κ => S_spec_DevOk_2 (fun t => κ none ⟨.dead :: .box 1 0 :: vB t.1 :: dd 60 [], [(1, .box [v_s_u8 t.2.1, v_Wr t.2.2.1, vI t.2.2.2.1, vB t.2.2.2.2])]⟩) (fun t => κ (some 0) ⟨.dead :: .box 1 0 :: dd 61 [], [(1, .box [v_s_u8 t.1, v_Wr t.2.1, vI t.2.2.1, vB t.2.2.2])]⟩)
def f35e7_0 (t : Qz41) : St := ⟨.dead :: .box 1 0 :: dd 2 (vI t.1 :: dd 58 []), [(1, .box [v_s_u8 t.2.1, v_Wr t.2.2.1, vI t.2.2.2.1, vB t.2.2.2.2])]⟩
noncomputable def f35g7 : Gk T_spec_DevOk_7 := fun κ => S_spec_DevOk_7 (fun t => κ none ⟨.dead :: .box 1 0 :: vB t.1 :: dd 60 [], [(1, .box [v_s_u8 t.2.1, v_Wr t.2.2.1, vI t.2.2.2.1, vB t.2.2.2.2])]⟩) (fun t => κ (some 2) ⟨.dead :: .box 1 0 :: dd 61 [], [(1, .box [v_s_u8 t.1, v_Wr t.2.1, vI t.2.2.1, vB t.2.2.2])]⟩)
noncomputable def f35P : Lp := lpC 7 (unG qz41 f35e7_0) @f35g7 (lpC 2 (unG qz41 f35e2_0) @f35g2 lpN)
theorem f35C2 : LF f35Q f35P 35 2 Try.f35 0 f35e2_0 @f35g2 fun t => t := fun R κ again t => by kernel_rfl
theorem f35k2 : LK f35Q f35P 35 Try.f35 0 := loop_okG (u := (unG qz41 f35e2_0)) (by kernel_rfl) (unG_ok fun t => by kernel_rfl) (fun R κ s => by kernel_rfl) f35C2
theorem f35C7 : LF f35Q f35P 35 7 Try.f35 1 f35e7_0 @f35g7 fun t => t := fun R κ again t => by kernel_rfl
theorem f35k7 : LK f35Q f35P 35 Try.f35 1 := loop_okG (u := (unG qz41 f35e7_0)) (by kernel_rfl) (unG_ok fun t => by kernel_rfl) (fun R κ s => by kernel_rfl) f35C7
theorem ev35 : EV f35Q f35P 35 Try.f35 sg35 qz13 [.bool] F_spec_DevOk := fun x => by kernel_rfl
noncomputable def q35 : QF := ⟨35, F_spec_DevOk, okN (n := 2) Try.func35 (by kernel_rfl) (by kernel_rfl) ⟨f35k2, f35k7, trivial⟩ ev35⟩
noncomputable def F_spec_PartAt (x : Qz2) : Option Int :=
  Option.bind (F_spec_l1In (x.1, (0 : Int), (1 : Int))) fun r1 => Option.bind (bif (!r1) then some true else Option.bind (F_spec_l1In (x.2, (0 : Int), (23 : Int))) fun r3 => some (!r3)) fun u2 => bif u2 then some (-1 : Int) else some (Go.IntKind.wrap .i64 ((Go.IntKind.wrap .i64 ((8 : Int) + (Go.IntKind.wrap .i64 (x.1 * (24 : Int))))) + x.2))
theorem ev22 : EV [q36] lpN 22 Try.f22 sg22 qz2 [(.int .i64)] F_spec_PartAt := fun x => by kernel_rfl
noncomputable def q22 : QF := ⟨22, F_spec_PartAt, okN (n := 0) Try.func22 (by kernel_rfl) (by kernel_rfl) trivial ev22⟩
noncomputable def F_spec_l2Op (x : Qz13) : Option Qz42 :=
  bif (x.2.2.1 == (0 : Int)) then some (false, x.1, x.2.1, (-1 : Int), true) else bif (decide (x.2.2.1 > (0 : Int))) then some (true, x.1, x.2.1, (Go.IntKind.wrap .i64 (x.2.2.1 - (1 : Int))), x.2.2.2) else some (true, x.1, x.2.1, x.2.2.1, x.2.2.2)
theorem ev50 : EV [] lpN 50 Try.f50 sg50 qz13 qz42 F_spec_l2Op := fun x => by kernel_rfl
noncomputable def q50 : QF := ⟨50, F_spec_l2Op, okN (n := 0) Try.func50 (by kernel_rfl) (by kernel_rfl) trivial ev50⟩
noncomputable def F_spec_l2Write (x : Qz43) : Option Qz13 :=
  Option.bind (bif x.2.2.2.1 then some true else Option.bind (F_spec_l1In (x.2.2.2.2.1, (0 : Int), (Go.IntKind.wrap .i64 (((List.length x.1 : Nat) : Int) - (1 : Int))))) fun r2 => some (!r2)) fun u1 => Option.bind (bif u1 then some true else some (decide (((List.length x.2.2.2.2.2 : Nat) : Int) > (80 : Int)))) fun u3 => Option.bind (bif u3 then some true else some (decide (((List.length x.2.1 : Nat) : Int) ≥ (60 : Int)))) fun u4 => bif u4 then some (x.1, x.2.1, x.2.2.1, x.2.2.2.1) else Option.bind (F_spec_l2Op (x.1, x.2.1, x.2.2.1, x.2.2.2.1)) fun r5 => bif (!r5.1) then some (r5.2.1, r5.2.2.1, r5.2.2.2.1, r5.2.2.2.2) else if (List.length ([] : List E_u8) + List.length x.2.2.2.2.2) * 1 < 140737488355328 then if (List.length r5.2.2.1 + List.length ([(x.2.2.2.2.1, (([] : List E_u8) ++ x.2.2.2.2.2))] : List E_Wr)) * 32 < 140737488355328 then some (r5.2.1, (r5.2.2.1 ++ ([(x.2.2.2.2.1, (([] : List E_u8) ++ x.2.2.2.2.2))] : List E_Wr)), r5.2.2.2.1, r5.2.2.2.2) else none else none
theorem ev48 : EV [q36, q50] lpN 48 Try.f48 sg48 qz43 qz13 F_spec_l2Write := fun x => by kernel_rfl
noncomputable def q48 : QF := ⟨48, F_spec_l2Write, okN (n := 0) Try.func48 (by kernel_rfl) (by kernel_rfl) trivial ev48⟩
abbrev T_spec_l18Write_1 : Type := Qz44
noncomputable def S_spec_l18Write_1 {R : Type} (k0 : Qz45 → Option R) (again : T_spec_l18Write_1 → Option R) (t1 : T_spec_l18Write_1) : Option R :=
  bif (decide ((Go.IntKind.wrap .i64 (t1.2.2.1 * (70 : Int))) < ((List.length t1.2.1 : Nat) : Int))) then bif (decide ((Go.IntKind.wrap .i64 ((Go.IntKind.wrap .i64 (t1.2.2.1 + (1 : Int))) * (70 : Int))) > ((List.length t1.2.1 : Nat) : Int))) then Option.bind (F_spec_PartAt (t1.1, t1.2.2.1)) fun r1 => if (0 : Int) ≤ (Go.IntKind.wrap .i64 (t1.2.2.1 * (70 : Int))) then if (Go.IntKind.wrap .i64 (t1.2.2.1 * (70 : Int))) ≤ ((List.length t1.2.1 : Nat) : Int) then if ((List.length t1.2.1 : Nat) : Int) ≤ ((List.length t1.2.1 : Nat) : Int) then Option.bind (F_spec_l2Write (t1.2.2.2.2.2.1, t1.2.2.2.2.2.2, t1.2.2.2.1, t1.2.2.2.2.1, r1, (List.drop (Int.toNat (Go.IntKind.wrap .i64 (t1.2.2.1 * (70 : Int)))) (List.take (Int.toNat ((List.length t1.2.1 : Nat) : Int)) t1.2.1)))) fun r2 => again (t1.1, t1.2.1, (Go.IntKind.wrap .i64 (t1.2.2.1 + (1 : Int))), r2.2.2.1, r2.2.2.2, r2.1, r2.2.1) else none else none else none else Option.bind (F_spec_PartAt (t1.1, t1.2.2.1)) fun r3 => if (0 : Int) ≤ (Go.IntKind.wrap .i64 (t1.2.2.1 * (70 : Int))) then if (Go.IntKind.wrap .i64 (t1.2.2.1 * (70 : Int))) ≤ (Go.IntKind.wrap .i64 ((Go.IntKind.wrap .i64 (t1.2.2.1 + (1 : Int))) * (70 : Int))) then if (Go.IntKind.wrap .i64 ((Go.IntKind.wrap .i64 (t1.2.2.1 + (1 : Int))) * (70 : Int))) ≤ ((List.length t1.2.1 : Nat) : Int) then Option.bind (F_spec_l2Write (t1.2.2.2.2.2.1, t1.2.2.2.2.2.2, t1.2.2.2.1, t1.2.2.2.2.1, r3, (List.drop (Int.toNat (Go.IntKind.wrap .i64 (t1.2.2.1 * (70 : Int)))) (List.take (Int.toNat (Go.IntKind.wrap .i64 ((Go.IntKind.wrap .i64 (t1.2.2.1 + (1 : Int))) * (70 : Int)))) t1.2.1)))) fun r4 => again (t1.1, t1.2.1, (Go.IntKind.wrap .i64 (t1.2.2.1 + (1 : Int))), r4.2.2.1, r4.2.2.2, r4.1, r4.2.1) else none else none else none else k0 (t1.2.2.2.1, t1.2.2.2.2.1, t1.2.2.2.2.2.1, t1.2.2.2.2.2.2)
noncomputable def L_spec_l18Write_1 {R : Type} (k0 : Qz45 → Option R) (t : T_spec_l18Write_1) : Option R := iter (S_spec_l18Write_1 k0) FUEL t
noncomputable def F_spec_l18Write (x : Qz43) : Option Qz13 :=
  L_spec_l18Write_1 (fun x5 => some (x5.2.2.1, x5.2.2.2, x5.1, x5.2.1)) (x.2.2.2.2.1, x.2.2.2.2.2, (0 : Int), x.2.2.1, x.2.2.2.1, x.1, x.2.1)
noncomputable def f37Q : List QF := [q22, q48]
def f37e1_0 (t : Qz44) : St := ⟨.box 900 0 :: vI t.1 :: v_u8 t.2.1 :: dd 3 (vI t.2.2.1 :: dd 27 []), [(900, .box [.own 10000000, .own 10000001, vI t.2.2.2.1, vB t.2.2.2.2.1]), (10000000, .root true 29 ts_s_u8 t.2.2.2.2.2.1), (10000001, .root true 64 ts_Wr t.2.2.2.2.2.2)]⟩
noncomputable def f37g1 : Gk T_spec_l18Write_1 := fun κ => S_spec_l18Write_1 (fun t => κ (some 0) ⟨.box 900 0 :: dd 33 [], [(900, .box [.own 10000000, .own 10000001, vI t.1, vB t.2.1]), (10000000, .root true 29 ts_s_u8 t.2.2.1), (10000001, .root true 64 ts_Wr t.2.2.2)]⟩)
noncomputable def f37P : Lp := lpC 1 (unG qz44 f37e1_0) @f37g1 lpN
theorem f37C1 : LF f37Q f37P 37 1 Try.f37 0 f37e1_0 @f37g1 fun t => t := fun R κ again t => by kernel_rfl
theorem f37k1 : LK f37Q f37P 37 Try.f37 0 := loop_okG (u := (unG qz44 f37e1_0)) (by kernel_rfl) (unG_ok fun t => by kernel_rfl) (fun R κ s => by kernel_rfl) f37C1
theorem ev37 : EV f37Q f37P 37 Try.f37 sg37 qz43 qz13 F_spec_l18Write := fun x => by kernel_rfl
noncomputable def q37 : QF := ⟨37, F_spec_l18Write, okN (n := 1) Try.func37 (by kernel_rfl) (by kernel_rfl) ⟨f37k1, trivial⟩ ev37⟩
noncomputable def F_spec_WriteImage (x : Qz43) : Option Qz13 :=
  Option.bind (F_spec_l2Copy (x.1, x.2.1, x.2.2.1, x.2.2.2.1)) fun r1 => Option.bind (F_spec_DevOk (x.1, x.2.1, x.2.2.1, x.2.2.2.1)) fun r2 => Option.bind (bif r2 then Option.bind (F_spec_l1In (x.2.2.2.2.1, (0 : Int), (1 : Int))) fun r4 => some r4 else some false) fun u3 => Option.bind (bif u3 then some (decide (((List.length x.2.2.2.2.2 : Nat) : Int) ≤ (1680 : Int))) else some false) fun u5 => bif u5 then Option.bind (F_spec_l18Write (r1.1, r1.2.1, r1.2.2.1, r1.2.2.2, x.2.2.2.2.1, x.2.2.2.2.2)) fun r6 => some (r6.1, r6.2.1, r6.2.2.1, r6.2.2.2) else some (r1.1, r1.2.1, r1.2.2.1, r1.2.2.2)
theorem ev15 : EV [q34, q35, q36, q37] lpN 15 Try.f15 sg15 qz43 qz13 F_spec_WriteImage := fun x => by kernel_rfl
noncomputable def q15 : QF := ⟨15, F_spec_WriteImage, okN (n := 0) Try.func15 (by kernel_rfl) (by kernel_rfl) trivial ev15⟩
noncomputable def F_impl_within (x : Qz40) : Option Bool :=
  Option.bind (bif (decide (x.1 ≥ x.2.1)) then some (decide (x.1 ≤ x.2.2)) else some false) fun u1 => some u1
theorem ev28 : EV [] lpN 28 Try.f28 sg28 qz40 [.bool] F_impl_within := fun x => by kernel_rfl
noncomputable def q28 : QF := ⟨28, F_impl_within, okN (n := 0) Try.func28 (by kernel_rfl) (by kernel_rfl) trivial ev28⟩
noncomputable def F_impl_PartAt (x : Qz2) : Option Int :=
  Option.bind (F_impl_within (x.1, (0 : Int), (1 : Int))) fun r1 => Option.bind (bif (!r1) then some true else Option.bind (F_impl_within (x.2, (0 : Int), (23 : Int))) fun r3 => some (!r3)) fun u2 => bif u2 then some (-1 : Int) else some (Go.IntKind.wrap .i64 ((Go.IntKind.wrap .i64 ((8 : Int) + (Go.IntKind.wrap .i64 (x.1 * (24 : Int))))) + x.2))
theorem ev27 : EV [q28] lpN 27 Try.f27 sg27 qz2 [(.int .i64)] F_impl_PartAt := fun x => by kernel_rfl
noncomputable def q27 : QF := ⟨27, F_impl_PartAt, okN (n := 0) Try.func27 (by kernel_rfl) (by kernel_rfl) trivial ev27⟩
abbrev T_impl_joined_3 : Type := Qz46
noncomputable def S_impl_joined_3 {R : Type} (k0 : List E_u8 → Option R) (again : T_impl_joined_3 → Option R) (t3 : T_impl_joined_3) : Option R :=
  bif (decide (t3.2.2.1 < t3.2.1)) then if (0 : Int) ≤ t3.2.2.1 then if t3.2.2.1 < ((List.length t3.1 : Nat) : Int) then if (List.length t3.2.2.2 + List.length (rd_s_u8 t3.1 t3.2.2.1)) * 1 < 140737488355328 then again (t3.1, t3.2.1, (Go.IntKind.wrap .i64 (t3.2.2.1 + (1 : Int))), (t3.2.2.2 ++ (rd_s_u8 t3.1 t3.2.2.1))) else none else none else none else k0 t3.2.2.2
noncomputable def L_impl_joined_3 {R : Type} (k0 : List E_u8 → Option R) (t : T_impl_joined_3) : Option R := iter (S_impl_joined_3 k0) FUEL t
noncomputable def F_impl_joined (x : List E_s_u8) : Option (List E_u8) :=
  L_impl_joined_3 (fun x1 => some x1) (x, ((List.length x : Nat) : Int), (0 : Int), ([] : List E_u8))
noncomputable def f46Q : List QF := []
def f46e3_0 (t : Qz46) : St := ⟨dd 3 (.own 10000000 :: dd 3 (v_s_u8 t.1 :: vI t.2.1 :: vI t.2.2.1 :: dd 8 [])), [(10000000, .root true 5 ts_u8 t.2.2.2)]⟩
noncomputable def f46g3 : Gk T_impl_joined_3 := fun κ => S_impl_joined_3 (fun t => κ (some 0) ⟨dd 3 (.own 10000000 :: dd 14 []), [(10000000, .root true 5 ts_u8 t)]⟩)
noncomputable def f46P : Lp := lpC 3 (unG qz46 f46e3_0) @f46g3 lpN
theorem f46C3 : LF f46Q f46P 46 3 Try.f46 0 f46e3_0 @f46g3 fun t => t := fun R κ again t => by kernel_rfl
theorem f46k3 : LK f46Q f46P 46 Try.f46 0 := loop_okG (u := (unG qz46 f46e3_0)) (by kernel_rfl) (unG_ok fun t => by kernel_rfl) (fun R κ s => by kernel_rfl) f46C3
theorem ev46 : EV f46Q f46P 46 Try.f46 sg46 [(.sl 29 ts_s_u8)] [(.sl 5 ts_u8)] F_impl_joined := fun x => by kernel_rfl
noncomputable def q46 : QF := ⟨46, F_impl_joined, okN (n := 1) Try.func46 (by kernel_rfl) (by kernel_rfl) ⟨f46k3, trivial⟩ ev46⟩
abbrev T_impl_copyDev_3 : Type := Qz47 ⊕ Qz48
noncomputable def S_impl_copyDev_3 {R : Type} (k0 : Qz32 → Option R) (k1 : Qz33 → Option R) (again : T_impl_copyDev_3 → Option R) : T_impl_copyDev_3 → Option R
  | .inl t3 => bif (decide (t3.2.2.1 < t3.2.1)) then if (0 : Int) ≤ t3.2.2.1 then if t3.2.2.1 < ((List.length t3.1 : Nat) : Int) then Option.bind (F_impl_joined ([(rd_s_u8 t3.1 t3.2.2.1)] : List E_s_u8)) fun r1 => if List.length ([r1] : List E_s_u8) * 24 < 140737488355328 then again (Sum.inr (t3.1, t3.2.1, (Go.IntKind.wrap .i64 (t3.2.2.1 + (1 : Int))), t3.2.2.2.1, t3.2.2.2.2.1, t3.2.2.2.2.2.1, t3.2.2.2.2.2.2.1, t3.2.2.2.2.2.2.2.1, t3.2.2.2.2.2.2.2.2.1, t3.2.2.2.2.2.2.2.2.2.1, t3.2.2.2.2.2.2.2.2.2.2, ([r1] : List E_s_u8))) else none else none else none else k0 (t3.2.2.2.1, t3.2.2.2.2.1, t3.2.2.2.2.2.1, t3.2.2.2.2.2.2.1, t3.2.2.2.2.2.2.2.1, t3.2.2.2.2.2.2.2.2.1, t3.2.2.2.2.2.2.2.2.2.1, t3.2.2.2.2.2.2.2.2.2.2)
  | .inr t3 => bif (decide (t3.2.2.1 < t3.2.1)) then if (0 : Int) ≤ t3.2.2.1 then if t3.2.2.1 < ((List.length t3.1 : Nat) : Int) then Option.bind (F_impl_joined ([(rd_s_u8 t3.1 t3.2.2.1)] : List E_s_u8)) fun r2 => if (List.length t3.2.2.2.2.2.2.2.2.2.2.2 + List.length ([r2] : List E_s_u8)) * 24 < 140737488355328 then again (Sum.inr (t3.1, t3.2.1, (Go.IntKind.wrap .i64 (t3.2.2.1 + (1 : Int))), t3.2.2.2.1, t3.2.2.2.2.1, t3.2.2.2.2.2.1, t3.2.2.2.2.2.2.1, t3.2.2.2.2.2.2.2.1, t3.2.2.2.2.2.2.2.2.1, t3.2.2.2.2.2.2.2.2.2.1, t3.2.2.2.2.2.2.2.2.2.2.1, (t3.2.2.2.2.2.2.2.2.2.2.2 ++ ([r2] : List E_s_u8)))) else none else none else none else k1 (t3.2.2.2.1, t3.2.2.2.2.1, t3.2.2.2.2.2.1, t3.2.2.2.2.2.2.1, t3.2.2.2.2.2.2.2.1, t3.2.2.2.2.2.2.2.2.1, t3.2.2.2.2.2.2.2.2.2.1, t3.2.2.2.2.2.2.2.2.2.2.1, t3.2.2.2.2.2.2.2.2.2.2.2)
noncomputable def L_impl_copyDev_3 {R : Type} (k0 : Qz32 → Option R) (k1 : Qz33 → Option R) (t : T_impl_copyDev_3) : Option R := iter (S_impl_copyDev_3 k0 k1) FUEL t
abbrev T_impl_copyDev_8 : Type := Qz49 ⊕ Qz50 ⊕ Qz51 ⊕ Qz52
noncomputable def S_impl_copyDev_8 {R : Type} (k0 : Qz36 → Option R) (k1 : Qz37 → Option R) (k2 : Qz38 → Option R) (k3 : Qz39 → Option R) (again : T_impl_copyDev_8 → Option R) : T_impl_copyDev_8 → Option R
  | .inl t8 => bif (decide (t8.2.2.1 < t8.2.1)) then if (0 : Int) ≤ t8.2.2.1 then if t8.2.2.1 < ((List.length t8.1 : Nat) : Int) then Option.bind (F_impl_joined ([(rd_Wr t8.1 t8.2.2.1).2] : List E_s_u8)) fun r13 => if List.length ([((rd_Wr t8.1 t8.2.2.1).1, r13)] : List E_Wr) * 32 < 140737488355328 then again (Sum.inr (Sum.inl (t8.1, t8.2.1, (Go.IntKind.wrap .i64 (t8.2.2.1 + (1 : Int))), t8.2.2.2.1, t8.2.2.2.2.1, t8.2.2.2.2.2.1, t8.2.2.2.2.2.2, ([((rd_Wr t8.1 t8.2.2.1).1, r13)] : List E_Wr)))) else none else none else none else k0 (t8.2.2.2.1, t8.2.2.2.2.1, t8.2.2.2.2.2.1, t8.2.2.2.2.2.2)
  | .inr (.inl t8) => bif (decide (t8.2.2.1 < t8.2.1)) then if (0 : Int) ≤ t8.2.2.1 then if t8.2.2.1 < ((List.length t8.1 : Nat) : Int) then Option.bind (F_impl_joined ([(rd_Wr t8.1 t8.2.2.1).2] : List E_s_u8)) fun r14 => if (List.length t8.2.2.2.2.2.2.2 + List.length ([((rd_Wr t8.1 t8.2.2.1).1, r14)] : List E_Wr)) * 32 < 140737488355328 then again (Sum.inr (Sum.inl (t8.1, t8.2.1, (Go.IntKind.wrap .i64 (t8.2.2.1 + (1 : Int))), t8.2.2.2.1, t8.2.2.2.2.1, t8.2.2.2.2.2.1, t8.2.2.2.2.2.2.1, (t8.2.2.2.2.2.2.2 ++ ([((rd_Wr t8.1 t8.2.2.1).1, r14)] : List E_Wr))))) else none else none else none else k1 (t8.2.2.2.1, t8.2.2.2.2.1, t8.2.2.2.2.2.1, t8.2.2.2.2.2.2.1, t8.2.2.2.2.2.2.2)
  | .inr (.inr (.inl t8)) => bif (decide (t8.2.2.1 < t8.2.1)) then if (0 : Int) ≤ t8.2.2.1 then if t8.2.2.1 < ((List.length t8.1 : Nat) : Int) then Option.bind (F_impl_joined ([(rd_Wr t8.1 t8.2.2.1).2] : List E_s_u8)) fun r15 => if List.length ([((rd_Wr t8.1 t8.2.2.1).1, r15)] : List E_Wr) * 32 < 140737488355328 then again (Sum.inr (Sum.inr (Sum.inr (t8.1, t8.2.1, (Go.IntKind.wrap .i64 (t8.2.2.1 + (1 : Int))), t8.2.2.2.1, t8.2.2.2.2.1, t8.2.2.2.2.2.1, t8.2.2.2.2.2.2.1, t8.2.2.2.2.2.2.2, ([((rd_Wr t8.1 t8.2.2.1).1, r15)] : List E_Wr))))) else none else none else none else k2 (t8.2.2.2.1, t8.2.2.2.2.1, t8.2.2.2.2.2.1, t8.2.2.2.2.2.2.1, t8.2.2.2.2.2.2.2)
  | .inr (.inr (.inr t8)) => bif (decide (t8.2.2.1 < t8.2.1)) then if (0 : Int) ≤ t8.2.2.1 then if t8.2.2.1 < ((List.length t8.1 : Nat) : Int) then Option.bind (F_impl_joined ([(rd_Wr t8.1 t8.2.2.1).2] : List E_s_u8)) fun r16 => if (List.length t8.2.2.2.2.2.2.2.2 + List.length ([((rd_Wr t8.1 t8.2.2.1).1, r16)] : List E_Wr)) * 32 < 140737488355328 then again (Sum.inr (Sum.inr (Sum.inr (t8.1, t8.2.1, (Go.IntKind.wrap .i64 (t8.2.2.1 + (1 : Int))), t8.2.2.2.1, t8.2.2.2.2.1, t8.2.2.2.2.2.1, t8.2.2.2.2.2.2.1, t8.2.2.2.2.2.2.2.1, (t8.2.2.2.2.2.2.2.2 ++ ([((rd_Wr t8.1 t8.2.2.1).1, r16)] : List E_Wr)))))) else none else none else none else k3 (t8.2.2.2.1, t8.2.2.2.2.1, t8.2.2.2.2.2.1, t8.2.2.2.2.2.2.1, t8.2.2.2.2.2.2.2.1, t8.2.2.2.2.2.2.2.2)
noncomputable def L_impl_copyDev_8 {R : Type} (k0 : Qz36 → Option R) (k1 : Qz37 → Option R) (k2 : Qz38 → Option R) (k3 : Qz39 → Option R) (t : T_impl_copyDev_8) : Option R := iter (S_impl_copyDev_8 k0 k1 k2 k3) FUEL t
noncomputable def F_impl_copyDev (x : Qz13) : Option Qz13 :=
  L_impl_copyDev_3 (fun x3 => L_impl_copyDev_8 (fun x8 => some (([] : List E_s_u8), ([] : List E_Wr), x8.2.2.1, x8.2.2.2)) (fun x9 => some (([] : List E_s_u8), x9.2.2.2.2, x9.2.2.1, x9.2.2.2.1)) (fun x10 => some (x10.2.2.2.2, ([] : List E_Wr), x10.2.2.1, x10.2.2.2.1)) (fun x11 => some (x11.2.2.2.2.1, x11.2.2.2.2.2, x11.2.2.1, x11.2.2.2.1)) (Sum.inl (x3.2.1, ((List.length x3.2.1 : Nat) : Int), (0 : Int), x3.2.2.2.2.1, x3.2.2.2.2.2.1, x3.2.2.2.2.2.2.1, x3.2.2.2.2.2.2.2))) (fun x12 => L_impl_copyDev_8 (fun x17 => some (([] : List E_s_u8), ([] : List E_Wr), x17.2.2.1, x17.2.2.2)) (fun x18 => some (([] : List E_s_u8), x18.2.2.2.2, x18.2.2.1, x18.2.2.2.1)) (fun x19 => some (x19.2.2.2.2, ([] : List E_Wr), x19.2.2.1, x19.2.2.2.1)) (fun x20 => some (x20.2.2.2.2.1, x20.2.2.2.2.2, x20.2.2.1, x20.2.2.2.1)) (Sum.inr (Sum.inr (Sum.inl (x12.2.1, ((List.length x12.2.1 : Nat) : Int), (0 : Int), x12.2.2.2.2.1, x12.2.2.2.2.2.1, x12.2.2.2.2.2.2.1, x12.2.2.2.2.2.2.2.1, x12.2.2.2.2.2.2.2.2))))) (Sum.inl (x.1, ((List.length x.1 : Nat) : Int), (0 : Int), x.1, x.2.1, x.2.2.1, x.2.2.2, (0 : Int), false, x.2.2.1, x.2.2.2))
noncomputable def f38Q : List QF := [q46]
def f38e3_0 (t : Qz47) : St := ⟨.dead :: .box 1 0 :: .box 2 0 :: .box 3 0 :: dd 10 (v_s_u8 t.1 :: vI t.2.1 :: vI t.2.2.1 :: dd 33 []), [(1, .box [v_s_u8 t.2.2.2.1, v_Wr t.2.2.2.2.1, vI t.2.2.2.2.2.1, vB t.2.2.2.2.2.2.1]), (2, .box [.nils, .nils, vI t.2.2.2.2.2.2.2.1, vB t.2.2.2.2.2.2.2.2.1]), (3, .box [.nils, .nils, vI t.2.2.2.2.2.2.2.2.2.1, vB t.2.2.2.2.2.2.2.2.2.2])]⟩
theorem f38v3_0 : ∀ s t, unG qz47 f38e3_0 s = some t → f38e3_0 t = s := unG_ok fun t => by kernel_rfl
def f38e3_1 (t : Qz48) : St := ⟨.dead :: .box 1 0 :: .box 2 0 :: .box 3 0 :: dd 10 (v_s_u8 t.1 :: vI t.2.1 :: vI t.2.2.1 :: dd 33 []), [(1, .box [v_s_u8 t.2.2.2.1, v_Wr t.2.2.2.2.1, vI t.2.2.2.2.2.1, vB t.2.2.2.2.2.2.1]), (2, .box [.nils, .nils, vI t.2.2.2.2.2.2.2.1, vB t.2.2.2.2.2.2.2.2.1]), (3, .box [.own 10000000, .nils, vI t.2.2.2.2.2.2.2.2.2.1, vB t.2.2.2.2.2.2.2.2.2.2.1]), (10000000, .deep true 0 29 ts_s_u8 t.2.2.2.2.2.2.2.2.2.2.2)]⟩
theorem f38v3_1 : ∀ s t, unG qz48 f38e3_1 s = some t → f38e3_1 t = s := unG_ok fun t => by kernel_rfl
def f38e3r0 : (Qz47 ⊕ Qz48) → St := Sum.elim f38e3_0 f38e3_1
def f38u3r0 (s : St) : Option (Qz47 ⊕ Qz48) := ((unG qz47 f38e3_0 s).map Sum.inl).or (((unG qz48 f38e3_1) s).map Sum.inr)
theorem f38v3r0 : ∀ s t, f38u3r0 s = some t → f38e3r0 t = s := or_un f38v3_0 f38v3_1
noncomputable def f38g3 : Gk T_impl_copyDev_3 := fun κ => S_impl_copyDev_3 (fun t => κ (some 0) ⟨.dead :: .box 1 0 :: .box 2 0 :: .box 3 0 :: dd 46 [], [(1, .box [v_s_u8 t.1, v_Wr t.2.1, vI t.2.2.1, vB t.2.2.2.1]), (2, .box [.nils, .nils, vI t.2.2.2.2.1, vB t.2.2.2.2.2.1]), (3, .box [.nils, .nils, vI t.2.2.2.2.2.2.1, vB t.2.2.2.2.2.2.2])]⟩) (fun t => κ (some 0) ⟨.dead :: .box 1 0 :: .box 2 0 :: .box 3 0 :: dd 46 [], [(1, .box [v_s_u8 t.1, v_Wr t.2.1, vI t.2.2.1, vB t.2.2.2.1]), (2, .box [.nils, .nils, vI t.2.2.2.2.1, vB t.2.2.2.2.2.1]), (3, .box [.own 10000000, .nils, vI t.2.2.2.2.2.2.1, vB t.2.2.2.2.2.2.2.1]), (10000000, .deep true 0 29 ts_s_u8 t.2.2.2.2.2.2.2.2)]⟩)
def f38e8_0 (t : Qz49) : St := ⟨dd 2 (.box 2 0 :: .box 3 0 :: dd 26 (v_Wr t.1 :: vI t.2.1 :: vI t.2.2.1 :: dd 17 [])), [(2, .box [.nils, .nils, vI t.2.2.2.1, vB t.2.2.2.2.1]), (3, .box [.nils, .nils, vI t.2.2.2.2.2.1, vB t.2.2.2.2.2.2])]⟩
theorem f38v8_0 : ∀ s t, unG qz49 f38e8_0 s = some t → f38e8_0 t = s := unG_ok fun t => by kernel_rfl
def f38e8_1 (t : Qz50) : St := ⟨dd 2 (.box 2 0 :: .box 3 0 :: dd 26 (v_Wr t.1 :: vI t.2.1 :: vI t.2.2.1 :: dd 17 [])), [(2, .box [.nils, .nils, vI t.2.2.2.1, vB t.2.2.2.2.1]), (3, .box [.nils, .own 10000000, vI t.2.2.2.2.2.1, vB t.2.2.2.2.2.2.1]), (10000000, .deep true 0 64 ts_Wr t.2.2.2.2.2.2.2)]⟩
theorem f38v8_1 : ∀ s t, unG qz50 f38e8_1 s = some t → f38e8_1 t = s := unG_ok fun t => by kernel_rfl
def f38e8_2 (t : Qz51) : St := ⟨dd 2 (.box 2 0 :: .box 3 0 :: dd 26 (v_Wr t.1 :: vI t.2.1 :: vI t.2.2.1 :: dd 17 [])), [(2, .box [.nils, .nils, vI t.2.2.2.1, vB t.2.2.2.2.1]), (3, .box [.own 10000000, .nils, vI t.2.2.2.2.2.1, vB t.2.2.2.2.2.2.1]), (10000000, .deep true 0 29 ts_s_u8 t.2.2.2.2.2.2.2)]⟩
theorem f38v8_2 : ∀ s t, unG qz51 f38e8_2 s = some t → f38e8_2 t = s := unG_ok fun t => by kernel_rfl
def f38e8_3 (t : Qz52) : St := ⟨dd 2 (.box 2 0 :: .box 3 0 :: dd 26 (v_Wr t.1 :: vI t.2.1 :: vI t.2.2.1 :: dd 17 [])), [(2, .box [.nils, .nils, vI t.2.2.2.1, vB t.2.2.2.2.1]), (3, .box [.own 10000000, .own 10000001, vI t.2.2.2.2.2.1, vB t.2.2.2.2.2.2.1]), (10000000, .deep true 0 29 ts_s_u8 t.2.2.2.2.2.2.2.1), (10000001, .deep true 0 64 ts_Wr t.2.2.2.2.2.2.2.2)]⟩
theorem f38v8_3 : ∀ s t, unG qz52 f38e8_3 s = some t → f38e8_3 t = s := unG_ok fun t => by kernel_rfl
def f38e8r2 : (Qz51 ⊕ Qz52) → St := Sum.elim f38e8_2 f38e8_3
def f38u8r2 (s : St) : Option (Qz51 ⊕ Qz52) := ((unG qz51 f38e8_2 s).map Sum.inl).or (((unG qz52 f38e8_3) s).map Sum.inr)
theorem f38v8r2 : ∀ s t, f38u8r2 s = some t → f38e8r2 t = s := or_un f38v8_2 f38v8_3
def f38e8r1 : (Qz50 ⊕ Qz51 ⊕ Qz52) → St := Sum.elim f38e8_1 f38e8r2
def f38u8r1 (s : St) : Option (Qz50 ⊕ Qz51 ⊕ Qz52) := ((unG qz50 f38e8_1 s).map Sum.inl).or ((f38u8r2 s).map Sum.inr)
theorem f38v8r1 : ∀ s t, f38u8r1 s = some t → f38e8r1 t = s := or_un f38v8_1 f38v8r2
def f38e8r0 : (Qz49 ⊕ Qz50 ⊕ Qz51 ⊕ Qz52) → St := Sum.elim f38e8_0 f38e8r1
def f38u8r0 (s : St) : Option (Qz49 ⊕ Qz50 ⊕ Qz51 ⊕ Qz52) := ((unG qz49 f38e8_0 s).map Sum.inl).or ((f38u8r1 s).map Sum.inr)
theorem f38v8r0 : ∀ s t, f38u8r0 s = some t → f38e8r0 t = s := or_un f38v8_0 f38v8r1
noncomputable def f38g8 : Gk T_impl_copyDev_8 := fun κ => S_impl_copyDev_8 (fun t => κ (some 2) ⟨dd 2 (.box 2 0 :: .box 3 0 :: dd 46 []), [(2, .box [.nils, .nils, vI t.1, vB t.2.1]), (3, .box [.nils, .nils, vI t.2.2.1, vB t.2.2.2])]⟩) (fun t => κ (some 2) ⟨dd 2 (.box 2 0 :: .box 3 0 :: dd 46 []), [(2, .box [.nils, .nils, vI t.1, vB t.2.1]), (3, .box [.nils, .own 10000000, vI t.2.2.1, vB t.2.2.2.1]), (10000000, .deep true 0 64 ts_Wr t.2.2.2.2)]⟩) (fun t => κ (some 2) ⟨dd 2 (.box 2 0 :: .box 3 0 :: dd 46 []), [(2, .box [.nils, .nils, vI t.1, vB t.2.1]), (3, .box [.own 10000000, .nils, vI t.2.2.1, vB t.2.2.2.1]), (10000000, .deep true 0 29 ts_s_u8 t.2.2.2.2)]⟩) (fun t => κ (some 2) ⟨dd 2 (.box 2 0 :: .box 3 0 :: dd 46 []), [(2, .box [.nils, .nils, vI t.1, vB t.2.1]), (3, .box [.own 10000000, .own 10000001, vI t.2.2.1, vB t.2.2.2.1]), (10000000, .deep true 0 29 ts_s_u8 t.2.2.2.2.1), (10000001, .deep true 0 64 ts_Wr t.2.2.2.2.2)]⟩)
noncomputable def f38P : Lp := lpC 8 f38u8r0 @f38g8 (lpC 3 f38u3r0 @f38g3 lpN)
theorem f38C3_0 : LF f38Q f38P 38 3 Try.f38 0 f38e3r0 @f38g3 fun v : Qz47 => .inl v := fun R κ again v => by kernel_rfl
theorem f38C3_1 : LF f38Q f38P 38 3 Try.f38 0 f38e3r0 @f38g3 fun v : Qz48 => .inr v := fun R κ again v => by kernel_rfl
theorem f38C3 : LF f38Q f38P 38 3 Try.f38 0 f38e3r0 @f38g3 fun t => t := (LC.sum f38C3_0 f38C3_1)
theorem f38k3 : LK f38Q f38P 38 Try.f38 0 := loop_okG (u := f38u3r0) (by kernel_rfl) f38v3r0 (fun R κ s => by kernel_rfl) f38C3
theorem f38C8_0 : LF f38Q f38P 38 8 Try.f38 1 f38e8r0 @f38g8 fun v : Qz49 => .inl v := fun R κ again v => by kernel_rfl
theorem f38C8_1 : LF f38Q f38P 38 8 Try.f38 1 f38e8r0 @f38g8 fun v : Qz50 => .inr (.inl v) := fun R κ again v => by kernel_rfl
theorem f38C8_2 : LF f38Q f38P 38 8 Try.f38 1 f38e8r0 @f38g8 fun v : Qz51 => .inr (.inr (.inl v)) := fun R κ again v => by kernel_rfl
theorem f38C8_3 : LF f38Q f38P 38 8 Try.f38 1 f38e8r0 @f38g8 fun v : Qz52 => .inr (.inr (.inr v)) := fun R κ again v => by kernel_rfl
theorem f38C8 : LF f38Q f38P 38 8 Try.f38 1 f38e8r0 @f38g8 fun t => t := (LC.sum f38C8_0 (LC.sum f38C8_1 (LC.sum f38C8_2 f38C8_3)))
theorem f38k8 : LK f38Q f38P 38 Try.f38 1 := loop_okG (u := f38u8r0) (by kernel_rfl) f38v8r0 (fun R κ s => by kernel_rfl) f38C8
theorem ev38 : EV f38Q f38P 38 Try.f38 sg38 qz13 qz13 F_impl_copyDev := fun x => by kernel_rfl
noncomputable def q38 : QF := ⟨38, F_impl_copyDev, okN (n := 2) Try.func38 (by kernel_rfl) (by kernel_rfl) ⟨f38k3, f38k8, trivial⟩ ev38⟩
abbrev T_impl_DevOk_4 : Type := Qz53
noncomputable def S_impl_DevOk_4 {R : Type} (k0 : Qz42 → Option R) (k1 : Qz13 → Option R) (again : T_impl_DevOk_4 → Option R) (t4 : T_impl_DevOk_4) : Option R :=
  bif (decide (t4.2.2.1 < t4.2.1)) then if (0 : Int) ≤ t4.2.2.1 then if t4.2.2.1 < ((List.length t4.1 : Nat) : Int) then bif (decide (((List.length (rd_s_u8 t4.1 t4.2.2.1) : Nat) : Int) > (80 : Int))) then k0 (false, t4.2.2.2.1, t4.2.2.2.2.1, t4.2.2.2.2.2.1, t4.2.2.2.2.2.2) else again (t4.1, t4.2.1, (Go.IntKind.wrap .i64 (t4.2.2.1 + (1 : Int))), t4.2.2.2.1, t4.2.2.2.2.1, t4.2.2.2.2.2.1, t4.2.2.2.2.2.2) else none else none else k1 (t4.2.2.2.1, t4.2.2.2.2.1, t4.2.2.2.2.2.1, t4.2.2.2.2.2.2)
noncomputable def L_impl_DevOk_4 {R : Type} (k0 : Qz42 → Option R) (k1 : Qz13 → Option R) (t : T_impl_DevOk_4) : Option R := iter (S_impl_DevOk_4 k0 k1) FUEL t
abbrev T_impl_DevOk_10 : Type := Qz54
noncomputable def S_impl_DevOk_10 {R : Type} (k0 : Bool → Option R) (k1 : Unit → Option R) (again : T_impl_DevOk_10 → Option R) (t10 : T_impl_DevOk_10) : Option R :=
  bif (decide (t10.2.2.1 < t10.2.1)) then if (0 : Int) ≤ t10.2.2.1 then if t10.2.2.1 < ((List.length t10.1 : Nat) : Int) then Option.bind (F_impl_within ((rd_Wr t10.1 t10.2.2.1).1, (0 : Int), (Go.IntKind.wrap .i64 (((List.length t10.2.2.2.1 : Nat) : Int) - (1 : Int))))) fun r7 => Option.bind (bif (!r7) then some true else some (decide (((List.length ((rd_Wr t10.1 t10.2.2.1).2) : Nat) : Int) > (80 : Int)))) fun u8 => bif u8 then k0 false else again (t10.1, t10.2.1, (Go.IntKind.wrap .i64 (t10.2.2.1 + (1 : Int))), t10.2.2.2.1, t10.2.2.2.2.1, t10.2.2.2.2.2.1, t10.2.2.2.2.2.2) else none else none else k1 ()
noncomputable def L_impl_DevOk_10 {R : Type} (k0 : Bool → Option R) (k1 : Unit → Option R) (t : T_impl_DevOk_10) : Option R := iter (S_impl_DevOk_10 k0 k1) FUEL t
noncomputable def F_impl_DevOk (x : Qz13) : Option Bool :=
  Option.bind (F_impl_within (((List.length x.1 : Nat) : Int), (1 : Int), (60 : Int))) fun r1 => Option.bind (bif (!r1) then some true else some (decide (((List.length x.2.1 : Nat) : Int) > (60 : Int)))) fun u2 => Option.bind (bif u2 then some true else Option.bind (F_impl_within (x.2.2.1, (-1 : Int), (1000 : Int))) fun r4 => some (!r4)) fun u3 => bif u3 then some false else L_impl_DevOk_4 (fun x5 => some x5.1) (fun x6 => L_impl_DevOk_10 (fun x9 => some x9) (fun x10 => some true) (x6.2.1, ((List.length x6.2.1 : Nat) : Int), (0 : Int), x6.1, x6.2.1, x6.2.2.1, x6.2.2.2)) (x.1, ((List.length x.1 : Nat) : Int), (0 : Int), x.1, x.2.1, x.2.2.1, x.2.2.2)
noncomputable def f39Q : List QF := [q28]
def f39e4_0 (t : Qz53) : St := ⟨.dead :: .box 1 0 :: dd 23 (v_s_u8 t.1 :: vI t.2.1 :: vI t.2.2.1 :: dd 29 []), [(1, .box [v_s_u8 t.2.2.2.1, v_Wr t.2.2.2.2.1, vI t.2.2.2.2.2.1, vB t.2.2.2.2.2.2])]⟩
noncomputable def f39g4 : Gk T_impl_DevOk_4 := fun κ => S_impl_DevOk_4 (fun t => κ none ⟨.dead :: .box 1 0 :: vB t.1 :: dd 54 [], [(1, .box [v_s_u8 t.2.1, v_Wr t.2.2.1, vI t.2.2.2.1, vB t.2.2.2.2])]⟩) (fun t => κ (some 0) ⟨.dead :: .box 1 0 :: dd 55 [], [(1, .box [v_s_u8 t.1, v_Wr t.2.1, vI t.2.2.1, vB t.2.2.2])]⟩)
def f39e10_0 (t : Qz54) : St := ⟨.dead :: .box 1 0 :: dd 34 (v_Wr t.1 :: vI t.2.1 :: vI t.2.2.1 :: dd 18 []), [(1, .box [v_s_u8 t.2.2.2.1, v_Wr t.2.2.2.2.1, vI t.2.2.2.2.2.1, vB t.2.2.2.2.2.2])]⟩
noncomputable def f39g10 : Gk T_impl_DevOk_10 := fun κ => S_impl_DevOk_10 (fun t => κ none ⟨dd 2 (vB t :: dd 54 []), []⟩) (fun t => κ (some 2) ⟨dd 57 [], []⟩)
noncomputable def f39P : Lp := lpC 10 (unG qz54 f39e10_0) @f39g10 (lpC 4 (unG qz53 f39e4_0) @f39g4 lpN)
theorem f39C4 : LF f39Q f39P 39 4 Try.f39 0 f39e4_0 @f39g4 fun t => t := fun R κ again t => by kernel_rfl
theorem f39k4 : LK f39Q f39P 39 Try.f39 0 := loop_okG (u := (unG qz53 f39e4_0)) (by kernel_rfl) (unG_ok fun t => by kernel_rfl) (fun R κ s => by kernel_rfl) f39C4
theorem f39C10 : LF f39Q f39P 39 10 Try.f39 1 f39e10_0 @f39g10 fun t => t := fun R κ again t => by kernel_rfl
theorem f39k10 : LK f39Q f39P 39 Try.f39 1 := loop_okG (u := (unG qz54 f39e10_0)) (by kernel_rfl) (unG_ok fun t => by kernel_rfl) (fun R κ s => by kernel_rfl) f39C10
theorem ev39 : EV f39Q f39P 39 Try.f39 sg39 qz13 [.bool] F_impl_DevOk := fun x => by kernel_rfl
noncomputable def q39 : QF := ⟨39, F_impl_DevOk, okN (n := 2) Try.func39 (by kernel_rfl) (by kernel_rfl) ⟨f39k4, f39k10, trivial⟩ ev39⟩
noncomputable def F_impl_burn (x : Qz13) : Option Qz55 :=
  bif (x.2.2.1 == (0 : Int)) then some (x.1, x.2.1, (-1 : Int), true, false) else bif (decide (x.2.2.1 > (0 : Int))) then some (x.1, x.2.1, (Go.IntKind.wrap .i64 (x.2.2.1 - (1 : Int))), x.2.2.2, true) else some (x.1, x.2.1, x.2.2.1, x.2.2.2, true)
theorem ev49 : EV [] lpN 49 Try.f49 sg49 qz13 qz55 F_impl_burn := fun x => by kernel_rfl
noncomputable def q49 : QF := ⟨49, F_impl_burn, okN (n := 0) Try.func49 (by kernel_rfl) (by kernel_rfl) trivial ev49⟩
noncomputable def F_impl_WriteSec (x : Qz43) : Option Qz13 :=
  Option.bind (F_impl_copyDev (x.1, x.2.1, x.2.2.1, x.2.2.2.1)) fun r1 => Option.bind (F_impl_DevOk (x.1, x.2.1, x.2.2.1, x.2.2.2.1)) fun r2 => Option.bind (bif (!r2) then some true else some x.2.2.2.1) fun u3 => Option.bind (bif u3 then some true else Option.bind (F_impl_within (x.2.2.2.2.1, (0 : Int), (Go.IntKind.wrap .i64 (((List.length x.1 : Nat) : Int) - (1 : Int))))) fun r5 => some (!r5)) fun u4 => Option.bind (bif u4 then some true else some (decide (((List.length x.2.2.2.2.2 : Nat) : Int) > (80 : Int)))) fun u6 => Option.bind (bif u6 then some true else some (((List.length x.2.1 : Nat) : Int) == (60 : Int))) fun u7 => bif u7 then some (r1.1, r1.2.1, r1.2.2.1, r1.2.2.2) else Option.bind (F_impl_burn (r1.1, r1.2.1, r1.2.2.1, r1.2.2.2)) fun r8 => bif r8.2.2.2.2 then Option.bind (F_impl_joined ([x.2.2.2.2.2] : List E_s_u8)) fun r9 => if (List.length r8.2.1 + List.length ([(x.2.2.2.2.1, r9)] : List E_Wr)) * 32 < 140737488355328 then some (r8.1, (r8.2.1 ++ ([(x.2.2.2.2.1, r9)] : List E_Wr)), r8.2.2.1, r8.2.2.2.1) else none else some (r8.1, r8.2.1, r8.2.2.1, r8.2.2.2.1)
theorem ev40 : EV [q28, q38, q39, q46, q49] lpN 40 Try.f40 sg40 qz43 qz13 F_impl_WriteSec := fun x => by kernel_rfl
noncomputable def q40 : QF := ⟨40, F_impl_WriteSec, okN (n := 0) Try.func40 (by kernel_rfl) (by kernel_rfl) trivial ev40⟩
abbrev T_impl_WriteImage_5 : Type := Qz56
noncomputable def S_impl_WriteImage_5 {R : Type} (k0 : Qz39 → Option R) (again : T_impl_WriteImage_5 → Option R) (t5 : T_impl_WriteImage_5) : Option R :=
  bif (decide ((Go.IntKind.wrap .i64 (t5.2.2.1 * (70 : Int))) < ((List.length t5.2.1 : Nat) : Int))) then Option.bind (F_impl_PartAt (t5.1, t5.2.2.1)) fun r6 => if (0 : Int) ≤ (Go.IntKind.wrap .i64 (t5.2.2.1 * (70 : Int))) then if (Go.IntKind.wrap .i64 (t5.2.2.1 * (70 : Int))) ≤ (if ((List.length t5.2.1 : Nat) : Int) < (Go.IntKind.wrap .i64 ((Go.IntKind.wrap .i64 (t5.2.2.1 + (1 : Int))) * (70 : Int))) then ((List.length t5.2.1 : Nat) : Int) else (Go.IntKind.wrap .i64 ((Go.IntKind.wrap .i64 (t5.2.2.1 + (1 : Int))) * (70 : Int)))) then if (if ((List.length t5.2.1 : Nat) : Int) < (Go.IntKind.wrap .i64 ((Go.IntKind.wrap .i64 (t5.2.2.1 + (1 : Int))) * (70 : Int))) then ((List.length t5.2.1 : Nat) : Int) else (Go.IntKind.wrap .i64 ((Go.IntKind.wrap .i64 (t5.2.2.1 + (1 : Int))) * (70 : Int)))) ≤ ((List.length t5.2.1 : Nat) : Int) then Option.bind (F_impl_WriteSec (t5.2.2.2.2.2.2.2.1, t5.2.2.2.2.2.2.2.2, t5.2.2.2.2.2.1, t5.2.2.2.2.2.2.1, r6, (List.drop (Int.toNat (Go.IntKind.wrap .i64 (t5.2.2.1 * (70 : Int)))) (List.take (Int.toNat (if ((List.length t5.2.1 : Nat) : Int) < (Go.IntKind.wrap .i64 ((Go.IntKind.wrap .i64 (t5.2.2.1 + (1 : Int))) * (70 : Int))) then ((List.length t5.2.1 : Nat) : Int) else (Go.IntKind.wrap .i64 ((Go.IntKind.wrap .i64 (t5.2.2.1 + (1 : Int))) * (70 : Int))))) t5.2.1)))) fun r7 => again (t5.1, t5.2.1, (Go.IntKind.wrap .i64 (t5.2.2.1 + (1 : Int))), t5.2.2.2.1, t5.2.2.2.2.1, r7.2.2.1, r7.2.2.2, r7.1, r7.2.1) else none else none else none else k0 (t5.2.2.2.1, t5.2.2.2.2.1, t5.2.2.2.2.2.1, t5.2.2.2.2.2.2.1, t5.2.2.2.2.2.2.2.1, t5.2.2.2.2.2.2.2.2)
noncomputable def L_impl_WriteImage_5 {R : Type} (k0 : Qz39 → Option R) (t : T_impl_WriteImage_5) : Option R := iter (S_impl_WriteImage_5 k0) FUEL t
noncomputable def F_impl_WriteImage (x : Qz43) : Option Qz13 :=
  Option.bind (F_impl_copyDev (x.1, x.2.1, x.2.2.1, x.2.2.2.1)) fun r1 => Option.bind (F_impl_DevOk (x.1, x.2.1, x.2.2.1, x.2.2.2.1)) fun r2 => Option.bind (bif (!r2) then some true else some (decide (((List.length x.2.2.2.2.2 : Nat) : Int) > (1680 : Int)))) fun u3 => Option.bind (bif u3 then some true else Option.bind (F_impl_within (x.2.2.2.2.1, (0 : Int), (1 : Int))) fun r5 => some (!r5)) fun u4 => bif u4 then some (r1.1, r1.2.1, r1.2.2.1, r1.2.2.2) else L_impl_WriteImage_5 (fun x8 => some (x8.2.2.2.2.1, x8.2.2.2.2.2, x8.2.2.1, x8.2.2.2.1)) (x.2.2.2.2.1, x.2.2.2.2.2, (0 : Int), (0 : Int), false, r1.2.2.1, r1.2.2.2, r1.1, r1.2.1)
noncomputable def f17Q : List QF := [q27, q28, q38, q39, q40]
def f17e5_0 (t : Qz56) : St := ⟨.dead :: vI t.1 :: v_u8 t.2.1 :: dd 3 (.box 6 0 :: .box 7 0 :: vI t.2.2.1 :: dd 39 []), [(6, .box [.nils, .nils, vI t.2.2.2.1, vB t.2.2.2.2.1]), (7, .box [.own 10000000, .own 10000001, vI t.2.2.2.2.2.1, vB t.2.2.2.2.2.2.1]), (10000000, .deep true 0 29 ts_s_u8 t.2.2.2.2.2.2.2.1), (10000001, .deep true 0 64 ts_Wr t.2.2.2.2.2.2.2.2)]⟩
noncomputable def f17g5 : Gk T_impl_WriteImage_5 := fun κ => S_impl_WriteImage_5 (fun t => κ (some 0) ⟨dd 6 (.box 6 0 :: .box 7 0 :: dd 40 []), [(6, .box [.nils, .nils, vI t.1, vB t.2.1]), (7, .box [.own 10000000, .own 10000001, vI t.2.2.1, vB t.2.2.2.1]), (10000000, .deep true 0 29 ts_s_u8 t.2.2.2.2.1), (10000001, .deep true 0 64 ts_Wr t.2.2.2.2.2)]⟩)
noncomputable def f17P : Lp := lpC 5 (unG qz56 f17e5_0) @f17g5 lpN
theorem f17C5 : LF f17Q f17P 17 5 Try.f17 0 f17e5_0 @f17g5 fun t => t := fun R κ again t => by kernel_rfl
theorem f17k5 : LK f17Q f17P 17 Try.f17 0 := loop_okG (u := (unG qz56 f17e5_0)) (by kernel_rfl) (unG_ok fun t => by kernel_rfl) (fun R κ s => by kernel_rfl) f17C5
theorem ev17 : EV f17Q f17P 17 Try.f17 sg17 qz43 qz13 F_impl_WriteImage := fun x => by kernel_rfl
noncomputable def q17 : QF := ⟨17, F_impl_WriteImage, okN (n := 1) Try.func17 (by kernel_rfl) (by kernel_rfl) ⟨f17k5, trivial⟩ ev17⟩
abbrev T_laws_heldByteS_2 : Type := Qz57
noncomputable def S_laws_heldByteS_2 {R : Type} (k0 : Qz2 → Option R) (k1 : Int → Option R) (again : T_laws_heldByteS_2 → Option R) (t2 : T_laws_heldByteS_2) : Option R :=
  bif (decide (t2.2.2 < ((List.length t2.1 : Nat) : Int))) then if (0 : Int) ≤ t2.2.2 then if t2.2.2 < ((List.length t2.1 : Nat) : Int) then bif ((rd_u8 t2.1 t2.2.2) != (Go.IntKind.wrap .u8 t2.2.1)) then k0 (t2.2.1, (-1 : Int)) else again (t2.1, (Go.IntKind.wrap .i64 (t2.2.1 + (1 : Int))), (Go.IntKind.wrap .i64 (t2.2.2 + (1 : Int)))) else none else none else k1 t2.2.1
noncomputable def L_laws_heldByteS_2 {R : Type} (k0 : Qz2 → Option R) (k1 : Int → Option R) (t : T_laws_heldByteS_2) : Option R := iter (S_laws_heldByteS_2 k0 k1) FUEL t
noncomputable def F_laws_heldByteS (x : Qz0) : Option Int :=
  L_laws_heldByteS_2 (fun x1 => some x1.2) (fun x2 => some x2) (x.1, x.2, (0 : Int))
noncomputable def f14Q : List QF := []
def f14e2_0 (t : Qz57) : St := ⟨v_u8 t.1 :: vI t.2.1 :: dd 3 (vI t.2.2 :: dd 16 []), []⟩
noncomputable def f14g2 : Gk T_laws_heldByteS_2 := fun κ => S_laws_heldByteS_2 (fun t => κ none ⟨.dead :: vI t.1 :: dd 2 (vI t.2 :: dd 17 []), []⟩) (fun t => κ (some 0) ⟨.dead :: vI t :: dd 20 [], []⟩)
noncomputable def f14P : Lp := lpC 2 (unG qz57 f14e2_0) @f14g2 lpN
theorem f14C2 : LF f14Q f14P 14 2 Try.f14 0 f14e2_0 @f14g2 fun t => t := fun R κ again t => by kernel_rfl
theorem f14k2 : LK f14Q f14P 14 Try.f14 0 := loop_okG (u := (unG qz57 f14e2_0)) (by kernel_rfl) (unG_ok fun t => by kernel_rfl) (fun R κ s => by kernel_rfl) f14C2
theorem ev14 : EV f14Q f14P 14 Try.f14 sg14 qz0 [(.int .i64)] F_laws_heldByteS := fun x => by kernel_rfl
noncomputable def q14 : QF := ⟨14, F_laws_heldByteS, okN (n := 1) Try.func14 (by kernel_rfl) (by kernel_rfl) ⟨f14k2, trivial⟩ ev14⟩
abbrev T_laws_heldByteSS_2 : Type := Qz1
noncomputable def S_laws_heldByteSS_2 {R : Type} (k0 : Qz2 → Option R) (k1 : Int → Option R) (again : T_laws_heldByteSS_2 → Option R) (t2 : T_laws_heldByteSS_2) : Option R :=
  bif (decide (t2.2.2 < ((List.length t2.1 : Nat) : Int))) then if (0 : Int) ≤ t2.2.2 then if t2.2.2 < ((List.length t2.1 : Nat) : Int) then Option.bind (F_laws_heldByteS ((rd_s_u8 t2.1 t2.2.2), t2.2.1)) fun r1 => bif (decide (r1 < (0 : Int))) then k0 (r1, (-1 : Int)) else again (t2.1, r1, (Go.IntKind.wrap .i64 (t2.2.2 + (1 : Int)))) else none else none else k1 t2.2.1
noncomputable def L_laws_heldByteSS_2 {R : Type} (k0 : Qz2 → Option R) (k1 : Int → Option R) (t : T_laws_heldByteSS_2) : Option R := iter (S_laws_heldByteSS_2 k0 k1) FUEL t
noncomputable def F_laws_heldByteSS (x : Qz3) : Option Int :=
  L_laws_heldByteSS_2 (fun x2 => some x2.2) (fun x3 => some x3) (x.1, x.2, (0 : Int))
noncomputable def f41Q : List QF := [q14]
def f41e2_0 (t : Qz1) : St := ⟨v_s_u8 t.1 :: vI t.2.1 :: dd 3 (vI t.2.2 :: dd 15 []), []⟩
noncomputable def f41g2 : Gk T_laws_heldByteSS_2 := fun κ => S_laws_heldByteSS_2 (fun t => κ none ⟨.dead :: vI t.1 :: dd 2 (vI t.2 :: dd 16 []), []⟩) (fun t => κ (some 0) ⟨.dead :: vI t :: dd 19 [], []⟩)
noncomputable def f41P : Lp := lpC 2 (unG qz1 f41e2_0) @f41g2 lpN
theorem f41C2 : LF f41Q f41P 41 2 Try.f41 0 f41e2_0 @f41g2 fun t => t := fun R κ again t => by kernel_rfl
theorem f41k2 : LK f41Q f41P 41 Try.f41 0 := loop_okG (u := (unG qz1 f41e2_0)) (by kernel_rfl) (unG_ok fun t => by kernel_rfl) (fun R κ s => by kernel_rfl) f41C2
theorem ev41 : EV f41Q f41P 41 Try.f41 sg41 qz3 [(.int .i64)] F_laws_heldByteSS := fun x => by kernel_rfl
noncomputable def q41 : QF := ⟨41, F_laws_heldByteSS, okN (n := 1) Try.func41 (by kernel_rfl) (by kernel_rfl) ⟨f41k2, trivial⟩ ev41⟩
abbrev T_laws_heldWrS_2 : Type := Qz58
noncomputable def S_laws_heldWrS_2 {R : Type} (k0 : Qz2 → Option R) (k1 : Int → Option R) (again : T_laws_heldWrS_2 → Option R) (t2 : T_laws_heldWrS_2) : Option R :=
  bif (decide (t2.2.2 < ((List.length t2.1 : Nat) : Int))) then if (0 : Int) ≤ t2.2.2 then if t2.2.2 < ((List.length t2.1 : Nat) : Int) then bif ((rd_Wr t2.1 t2.2.2).1 != t2.2.1) then k0 (t2.2.1, (-1 : Int)) else if (0 : Int) ≤ t2.2.2 then if t2.2.2 < ((List.length t2.1 : Nat) : Int) then Option.bind (F_laws_heldByteS ((rd_Wr t2.1 t2.2.2).2, (Go.IntKind.wrap .i64 (t2.2.1 + (1 : Int))))) fun r1 => bif (decide (r1 < (0 : Int))) then k0 (r1, (-1 : Int)) else again (t2.1, r1, (Go.IntKind.wrap .i64 (t2.2.2 + (1 : Int)))) else none else none else none else none else k1 t2.2.1
noncomputable def L_laws_heldWrS_2 {R : Type} (k0 : Qz2 → Option R) (k1 : Int → Option R) (t : T_laws_heldWrS_2) : Option R := iter (S_laws_heldWrS_2 k0 k1) FUEL t
noncomputable def F_laws_heldWrS (x : Qz27) : Option Int :=
  L_laws_heldWrS_2 (fun x2 => some x2.2) (fun x3 => some x3) (x.1, x.2, (0 : Int))
noncomputable def f42Q : List QF := [q14]
def f42e2_0 (t : Qz58) : St := ⟨v_Wr t.1 :: vI t.2.1 :: dd 3 (vI t.2.2 :: dd 25 []), []⟩
noncomputable def f42g2 : Gk T_laws_heldWrS_2 := fun κ => S_laws_heldWrS_2 (fun t => κ none ⟨.dead :: vI t.1 :: dd 2 (vI t.2 :: dd 26 []), []⟩) (fun t => κ (some 0) ⟨.dead :: vI t :: dd 29 [], []⟩)
noncomputable def f42P : Lp := lpC 2 (unG qz58 f42e2_0) @f42g2 lpN
theorem f42C2 : LF f42Q f42P 42 2 Try.f42 0 f42e2_0 @f42g2 fun t => t := fun R κ again t => by kernel_rfl
theorem f42k2 : LK f42Q f42P 42 Try.f42 0 := loop_okG (u := (unG qz58 f42e2_0)) (by kernel_rfl) (unG_ok fun t => by kernel_rfl) (fun R κ s => by kernel_rfl) f42C2
theorem ev42 : EV f42Q f42P 42 Try.f42 sg42 qz27 [(.int .i64)] F_laws_heldWrS := fun x => by kernel_rfl
noncomputable def q42 : QF := ⟨42, F_laws_heldWrS, okN (n := 1) Try.func42 (by kernel_rfl) (by kernel_rfl) ⟨f42k2, trivial⟩ ev42⟩
noncomputable def F_laws_heldDev (x : Qz28) : Option Int :=
  Option.bind (F_laws_heldByteSS (x.1, x.2.2.2.2)) fun r1 => bif (decide (r1 < (0 : Int))) then some (-1 : Int) else Option.bind (F_laws_heldWrS (x.2.1, r1)) fun r2 => bif (decide (r2 < (0 : Int))) then some (-1 : Int) else some r2
theorem ev18 : EV [q41, q42] lpN 18 Try.f18 sg18 qz28 [(.int .i64)] F_laws_heldDev := fun x => by kernel_rfl
noncomputable def q18 : QF := ⟨18, F_laws_heldDev, okN (n := 0) Try.func18 (by kernel_rfl) (by kernel_rfl) trivial ev18⟩
noncomputable def F_laws_FnExactWriteImage (x : Qz59) : Option Bool :=
  bif (decide (((List.length x.2.2.2.2.2 : Nat) : Int) > (1048576 : Int))) then some true else Option.bind (F_laws_szDev (x.1, x.2.1, x.2.2.1, x.2.2.2.1, (1048576 : Int))) fun r1 => bif (decide (r1 < (0 : Int))) then some true else Option.bind (F_laws_toDev (x.1, x.2.1, x.2.2.1, x.2.2.2.1)) fun r2 => Option.bind (F_laws_toByteS x.2.2.2.2.2) fun r3 => Option.bind (F_spec_WriteImage (r2.1, r2.2.1, r2.2.2.1, r2.2.2.2, x.2.2.2.2.1, r3)) fun r4 => Option.bind (F_laws_toDev (x.1, x.2.1, x.2.2.1, x.2.2.2.1)) fun r5 => Option.bind (F_laws_toByteS x.2.2.2.2.2) fun r6 => Option.bind (F_impl_WriteImage (r5.1, r5.2.1, r5.2.2.1, r5.2.2.2, x.2.2.2.2.1, r6)) fun r7 => Option.bind (F_laws_eqDev (r7.1, r7.2.1, r7.2.2.1, r7.2.2.2, r4.1, r4.2.1, r4.2.2.1, r4.2.2.2)) fun r8 => bif (!r8) then some false else Option.bind (F_laws_toDev (x.1, x.2.1, x.2.2.1, x.2.2.2.1)) fun r9 => Option.bind (F_laws_eqDev (r5.1, r5.2.1, r5.2.2.1, r5.2.2.2, r9.1, r9.2.1, r9.2.2.1, r9.2.2.2)) fun r10 => bif (!r10) then some false else Option.bind (F_laws_toByteS x.2.2.2.2.2) fun r11 => Option.bind (F_laws_eqByteS (r6, r11)) fun r12 => bif (!r12) then some false else Option.bind (F_laws_markDev (r5.1, r5.2.1, r5.2.2.1, r5.2.2.2, (1 : Int))) fun r13 => Option.bind (F_laws_markByteS (r6, r13.1)) fun r14 => Option.bind (bif (decide (r14.1 < (0 : Int))) then some true else Option.bind (F_laws_eqDev (r7.1, r7.2.1, r7.2.2.1, r7.2.2.2, r4.1, r4.2.1, r4.2.2.1, r4.2.2.2)) fun r16 => some (!r16)) fun u15 => bif u15 then some false else Option.bind (F_laws_markDev (r7.1, r7.2.1, r7.2.2.1, r7.2.2.2, (1 : Int))) fun r17 => Option.bind (F_laws_heldDev (r17.2.1, r17.2.2, r7.2.2.1, r7.2.2.2, (1 : Int))) fun r18 => bif (decide (r18 < (0 : Int))) then some false else bif (r18 != r17.1) then some false else Option.bind (F_laws_toDev (x.1, x.2.1, x.2.2.1, x.2.2.2.1)) fun r19 => Option.bind (F_laws_toByteS x.2.2.2.2.2) fun r20 => Option.bind (F_impl_WriteImage (r19.1, r19.2.1, r19.2.2.1, r19.2.2.2, x.2.2.2.2.1, r20)) fun r21 => Option.bind (F_laws_eqDev (r21.1, r21.2.1, r21.2.2.1, r21.2.2.2, r4.1, r4.2.1, r4.2.2.1, r4.2.2.2)) fun r22 => bif (!r22) then some false else Option.bind (F_laws_heldDev (r17.2.1, r17.2.2, r7.2.2.1, r7.2.2.2, (1 : Int))) fun r23 => bif (decide (r23 < (0 : Int))) then some false else bif (r23 != r17.1) then some false else some true
theorem ev4 : EV [q5, q7, q10, q11, q12, q13, q15, q16, q17, q18] lpN 4 Try.f4 sg4 qz59 [.bool] F_laws_FnExactWriteImage := fun x => by kernel_rfl
noncomputable def q4 : QF := ⟨4, F_laws_FnExactWriteImage, okN (n := 0) Try.func4 (by kernel_rfl) (by kernel_rfl) trivial ev4⟩
end Go.Proofs.Ytibkaphfhdmjlaa.XJ
