/- What functions compute, and that they do; part 0 of E; by a program (dec.py). No condition. -/
import Derived.Test.YtmanmgafjbnakaaXE
set_option linter.all false
namespace Go.Proofs.Ytmanmgafjbnakaa.XE
open Go.Proofs.Ytmanmgafjbnakaa.R
set_option maxRecDepth 100000
noncomputable def F_laws_szOp (x : Qz0) : Option Int :=
  bif (decide ((Go.IntKind.wrap .i64 (x.2.2.2.2.2 - ((ByteArray.size x.2.1 : Nat) : Int))) < (0 : Int))) then some (-1 : Int) else bif (decide ((Go.IntKind.wrap .i64 ((Go.IntKind.wrap .i64 (x.2.2.2.2.2 - ((ByteArray.size x.2.1 : Nat) : Int))) - ((ByteArray.size x.2.2.1 : Nat) : Int))) < (0 : Int))) then some (-1 : Int) else some (Go.IntKind.wrap .i64 ((Go.IntKind.wrap .i64 (x.2.2.2.2.2 - ((ByteArray.size x.2.1 : Nat) : Int))) - ((ByteArray.size x.2.2.1 : Nat) : Int)))
theorem ev61 : EV [] lpN 61 Try.f61 sg61 qz0 [(.int .i64)] F_laws_szOp := fun x => by kernel_rfl
noncomputable def q61 : QF := ⟨61, F_laws_szOp, okN (n := 0) Try.func61 (by kernel_rfl) (by kernel_rfl) trivial ev61⟩
noncomputable def F_laws_szEnt (x : Qz1) : Option Int :=
  Option.bind (F_laws_szOp (x.2.1, x.2.2.1, x.2.2.2.1, x.2.2.2.2.1, x.2.2.2.2.2.1, x.2.2.2.2.2.2)) fun r1 => bif (decide (r1 < (0 : Int))) then some (-1 : Int) else some r1
theorem ev11 : EV [q61] lpN 11 Try.f11 sg11 qz1 [(.int .i64)] F_laws_szEnt := fun x => by kernel_rfl
noncomputable def q11 : QF := ⟨11, F_laws_szEnt, okN (n := 0) Try.func11 (by kernel_rfl) (by kernel_rfl) trivial ev11⟩
noncomputable def F_spec_l1In (x : Qz2) : Option Bool :=
  Option.bind (bif (decide (x.1 ≥ x.2.1)) then some (decide (x.1 ≤ x.2.2)) else some false) fun u1 => some u1
theorem ev86 : EV [] lpN 86 Try.f86 sg86 qz2 [.bool] F_spec_l1In := fun x => by kernel_rfl
noncomputable def q86 : QF := ⟨86, F_spec_l1In, okN (n := 0) Try.func86 (by kernel_rfl) (by kernel_rfl) trivial ev86⟩
abbrev T_spec_NameOk_2 : Type := Qz3
noncomputable def S_spec_NameOk_2 {R : Type} (k0 : Qz4 → Option R) (k1 : ByteArray → Option R) (again : T_spec_NameOk_2 → Option R) (t2 : T_spec_NameOk_2) : Option R :=
  bif (decide (t2.2 < ((ByteArray.size t2.1 : Nat) : Int))) then if (0 : Int) ≤ t2.2 then if h1 : Int.toNat t2.2 < ByteArray.size t2.1 then Option.bind (F_spec_l1In ((Go.IntKind.wrap .i64 ((UInt8.toNat (ByteArray.get t2.1 (Int.toNat t2.2) h1) : Nat) : Int)), (97 : Int), (122 : Int))) fun r2 => Option.bind (bif (!r2) then if (0 : Int) ≤ t2.2 then if h4 : Int.toNat t2.2 < ByteArray.size t2.1 then Option.bind (F_spec_l1In ((Go.IntKind.wrap .i64 ((UInt8.toNat (ByteArray.get t2.1 (Int.toNat t2.2) h4) : Nat) : Int)), (48 : Int), (57 : Int))) fun r5 => some (!r5) else none else none else some false) fun u3 => bif u3 then k0 (t2.1, false) else again (t2.1, (Go.IntKind.wrap .i64 (t2.2 + (1 : Int)))) else none else none else k1 t2.1
noncomputable def L_spec_NameOk_2 {R : Type} (k0 : Qz4 → Option R) (k1 : ByteArray → Option R) (t : T_spec_NameOk_2) : Option R := iter (S_spec_NameOk_2 k0 k1) FUEL t
noncomputable def F_spec_NameOk (x : ByteArray) : Option Bool :=
  L_spec_NameOk_2 (fun x6 => some x6.2) (fun x7 => Option.bind (F_spec_l1In (((ByteArray.size x7 : Nat) : Int), (1 : Int), (6 : Int))) fun r8 => some r8) (x, (0 : Int))
noncomputable def f144Q : List QF := [q86]
def f144e2_0 (t : Qz3) : St := ⟨vS t.1 :: dd 2 (vI t.2 :: dd 23 []), []⟩
noncomputable def f144g2 : Gk T_spec_NameOk_2 := fun κ => S_spec_NameOk_2 (fun t => κ none ⟨vS t.1 :: .dead :: vB t.2 :: dd 24 [], []⟩) (fun t => κ (some 0) ⟨vS t :: dd 26 [], []⟩)
noncomputable def f144P : Lp := lpC 2 (unG qz3 f144e2_0) @f144g2 lpN
theorem f144C2 : LF f144Q f144P 144 2 Try.f144 0 f144e2_0 @f144g2 fun t => t := fun R κ again t => by kernel_rfl
theorem f144k2 : LK f144Q f144P 144 Try.f144 0 := loop_okG (u := (unG qz3 f144e2_0)) (by kernel_rfl) (unG_ok fun t => by kernel_rfl) (fun R κ s => by kernel_rfl) f144C2
theorem ev144 : EV f144Q f144P 144 Try.f144 sg144 [.str] [.bool] F_spec_NameOk := fun x => by kernel_rfl
noncomputable def q144 : QF := ⟨144, F_spec_NameOk, okN (n := 1) Try.func144 (by kernel_rfl) (by kernel_rfl) ⟨f144k2, trivial⟩ ev144⟩
noncomputable def F_spec_l1Word (x : Int) : Option Bool :=
  Option.bind (F_spec_l1In (x, (0 : Int), (65535 : Int))) fun r1 => some r1
theorem ev145 : EV [q86] lpN 145 Try.f145 sg145 [(.int .i64)] [.bool] F_spec_l1Word := fun x => by kernel_rfl
noncomputable def q145 : QF := ⟨145, F_spec_l1Word, okN (n := 0) Try.func145 (by kernel_rfl) (by kernel_rfl) trivial ev145⟩
noncomputable def F_spec_l15Zero (x : Qz5) : Option Bool :=
  bif (x.1 == (2 : Int)) then Option.bind (bif (x.2.2.2.1 == (0 : Int)) then Option.bind (F_spec_l1In (x.2.2.2.2, (0 : Int), (1 : Int))) fun r2 => some r2 else some false) fun u1 => some u1 else bif (x.1 == (3 : Int)) then bif (x.1 == (3 : Int)) then Option.bind (bif (x.2.2.2.1 == (0 : Int)) then some (x.2.2.2.2 == (0 : Int)) else some false) fun u3 => some u3 else bif (x.1 == (4 : Int)) then some true else some (x.2.2.2.2 == (0 : Int)) else bif (x.1 == (7 : Int)) then Option.bind (bif (x.2.2.2.1 == (0 : Int)) then some (x.2.2.2.2 == (0 : Int)) else some false) fun u4 => some u4 else bif (x.1 == (4 : Int)) then some true else some (x.2.2.2.2 == (0 : Int))
theorem ev146 : EV [q86] lpN 146 Try.f146 sg146 qz5 [.bool] F_spec_l15Zero := fun x => by kernel_rfl
noncomputable def q146 : QF := ⟨146, F_spec_l15Zero, okN (n := 0) Try.func146 (by kernel_rfl) (by kernel_rfl) trivial ev146⟩
noncomputable def F_spec_OpOk (x : Qz5) : Option Bool :=
  Option.bind (F_spec_NameOk x.2.1) fun r1 => bif (decide (x.1 ≥ (7 : Int))) then bif (x.1 == (2 : Int)) then Option.bind (F_spec_NameOk x.2.2.1) fun r2 => Option.bind (F_spec_l1In (x.1, (1 : Int), (9 : Int))) fun r3 => Option.bind (bif r3 then some ((ByteArray.toList x.2.1) == (ByteArray.toList ({ data := #[] }))) else some false) fun u4 => Option.bind (bif u4 then some r2 else some false) fun u5 => Option.bind (bif u5 then Option.bind (F_spec_l1Word x.2.2.2.1) fun r7 => some r7 else some false) fun u6 => Option.bind (bif u6 then Option.bind (F_spec_l1Word x.2.2.2.2) fun r9 => some r9 else some false) fun u8 => Option.bind (bif u8 then Option.bind (F_spec_l15Zero (x.1, x.2.1, x.2.2.1, x.2.2.2.1, x.2.2.2.2)) fun r11 => some r11 else some false) fun u10 => some u10 else Option.bind (F_spec_l1In (x.1, (1 : Int), (9 : Int))) fun r12 => Option.bind (bif r12 then some ((ByteArray.toList x.2.1) == (ByteArray.toList ({ data := #[] }))) else some false) fun u13 => Option.bind (bif u13 then some ((ByteArray.toList x.2.2.1) == (ByteArray.toList ({ data := #[] }))) else some false) fun u14 => Option.bind (bif u14 then Option.bind (F_spec_l1Word x.2.2.2.1) fun r16 => some r16 else some false) fun u15 => Option.bind (bif u15 then Option.bind (F_spec_l1Word x.2.2.2.2) fun r18 => some r18 else some false) fun u17 => Option.bind (bif u17 then Option.bind (F_spec_l15Zero (x.1, x.2.1, x.2.2.1, x.2.2.2.1, x.2.2.2.2)) fun r20 => some r20 else some false) fun u19 => some u19 else bif (x.1 == (2 : Int)) then Option.bind (F_spec_NameOk x.2.2.1) fun r21 => Option.bind (F_spec_l1In (x.1, (1 : Int), (9 : Int))) fun r22 => Option.bind (bif r22 then some r1 else some false) fun u23 => Option.bind (bif u23 then some r21 else some false) fun u24 => Option.bind (bif u24 then Option.bind (F_spec_l1Word x.2.2.2.1) fun r26 => some r26 else some false) fun u25 => Option.bind (bif u25 then Option.bind (F_spec_l1Word x.2.2.2.2) fun r28 => some r28 else some false) fun u27 => Option.bind (bif u27 then Option.bind (F_spec_l15Zero (x.1, x.2.1, x.2.2.1, x.2.2.2.1, x.2.2.2.2)) fun r30 => some r30 else some false) fun u29 => some u29 else Option.bind (F_spec_l1In (x.1, (1 : Int), (9 : Int))) fun r31 => Option.bind (bif r31 then some r1 else some false) fun u32 => Option.bind (bif u32 then some ((ByteArray.toList x.2.2.1) == (ByteArray.toList ({ data := #[] }))) else some false) fun u33 => Option.bind (bif u33 then Option.bind (F_spec_l1Word x.2.2.2.1) fun r35 => some r35 else some false) fun u34 => Option.bind (bif u34 then Option.bind (F_spec_l1Word x.2.2.2.2) fun r37 => some r37 else some false) fun u36 => Option.bind (bif u36 then Option.bind (F_spec_l15Zero (x.1, x.2.1, x.2.2.1, x.2.2.2.1, x.2.2.2.2)) fun r39 => some r39 else some false) fun u38 => some u38
theorem ev110 : EV [q86, q144, q145, q146] lpN 110 Try.f110 sg110 qz5 [.bool] F_spec_OpOk := fun x => by kernel_rfl
noncomputable def q110 : QF := ⟨110, F_spec_OpOk, okN (n := 0) Try.func110 (by kernel_rfl) (by kernel_rfl) trivial ev110⟩
noncomputable def F_spec_EntOk (x : Qz6) : Option Bool :=
  Option.bind (F_spec_l1In (x.1, (1 : Int), (60000 : Int))) fun r1 => Option.bind (bif r1 then Option.bind (F_spec_OpOk (x.2.1, x.2.2.1, x.2.2.2.1, x.2.2.2.2.1, x.2.2.2.2.2)) fun r3 => some r3 else some false) fun u2 => some u2
theorem ev49 : EV [q86, q110] lpN 49 Try.f49 sg49 qz6 [.bool] F_spec_EntOk := fun x => by kernel_rfl
noncomputable def q49 : QF := ⟨49, F_spec_EntOk, okN (n := 0) Try.func49 (by kernel_rfl) (by kernel_rfl) trivial ev49⟩
noncomputable def F_spec_PutW (x : Qz7) : Option (List E_u8) :=
  if (List.length ([] : List E_u8) + List.length x.1) * 1 < 140737488355328 then if (List.length (([] : List E_u8) ++ x.1) + List.length ([(Go.IntKind.wrap .u8 (Int.fdiv x.2 (2 ^ (min (Int.toNat (8 : Int)) (Go.IntKind.bits .i64))))), (Go.IntKind.wrap .u8 x.2)] : List E_u8)) * 1 < 140737488355328 then some ((([] : List E_u8) ++ x.1) ++ ([(Go.IntKind.wrap .u8 (Int.fdiv x.2 (2 ^ (min (Int.toNat (8 : Int)) (Go.IntKind.bits .i64))))), (Go.IntKind.wrap .u8 x.2)] : List E_u8)) else none else none
theorem ev63 : EV [] lpN 63 Try.f63 sg63 qz7 [(.sl 5 ts_u8)] F_spec_PutW := fun x => by kernel_rfl
noncomputable def q63 : QF := ⟨63, F_spec_PutW, okN (n := 0) Try.func63 (by kernel_rfl) (by kernel_rfl) trivial ev63⟩
noncomputable def F_spec_PutText (x : Qz8) : Option (List E_u8) :=
  bif (decide (((ByteArray.size x.2 : Nat) : Int) > (60 : Int))) then if (List.length ([] : List E_u8) + List.length x.1) * 1 < 140737488355328 then some (([] : List E_u8) ++ x.1) else none else Option.bind (F_spec_PutW (x.1, ((ByteArray.size x.2 : Nat) : Int))) fun r1 => if (List.length r1 + List.length (bytesL x.2)) * 1 < 140737488355328 then some (r1 ++ (bytesL x.2)) else none
theorem ev130 : EV [q63] lpN 130 Try.f130 sg130 qz8 [(.sl 5 ts_u8)] F_spec_PutText := fun x => by kernel_rfl
noncomputable def q130 : QF := ⟨130, F_spec_PutText, okN (n := 0) Try.func130 (by kernel_rfl) (by kernel_rfl) trivial ev130⟩
noncomputable def F_spec_PutOp (x : Qz9) : Option (List E_u8) :=
  if (List.length ([] : List E_u8) + List.length x.1) * 1 < 140737488355328 then Option.bind (F_spec_OpOk (x.2.1, x.2.2.1, x.2.2.2.1, x.2.2.2.2.1, x.2.2.2.2.2)) fun r1 => bif (!r1) then some (([] : List E_u8) ++ x.1) else if (List.length (([] : List E_u8) ++ x.1) + List.length ([(Go.IntKind.wrap .u8 x.2.1)] : List E_u8)) * 1 < 140737488355328 then Option.bind (F_spec_PutText (((([] : List E_u8) ++ x.1) ++ ([(Go.IntKind.wrap .u8 x.2.1)] : List E_u8)), x.2.2.1)) fun r2 => Option.bind (F_spec_PutText (r2, x.2.2.2.1)) fun r3 => Option.bind (F_spec_PutW (r3, x.2.2.2.2.1)) fun r4 => Option.bind (F_spec_PutW (r4, x.2.2.2.2.2)) fun r5 => some r5 else none else none
theorem ev62 : EV [q63, q110, q130] lpN 62 Try.f62 sg62 qz9 [(.sl 5 ts_u8)] F_spec_PutOp := fun x => by kernel_rfl
noncomputable def q62 : QF := ⟨62, F_spec_PutOp, okN (n := 0) Try.func62 (by kernel_rfl) (by kernel_rfl) trivial ev62⟩
noncomputable def F_spec_l17Four (x : Qz7) : Option (List E_u8) :=
  if (List.length ([] : List E_u8) + List.length x.1) * 1 < 140737488355328 then if (List.length (([] : List E_u8) ++ x.1) + List.length ([(Go.IntKind.wrap .u8 (Int.fdiv x.2 (2 ^ (min (Int.toNat (24 : Int)) (Go.IntKind.bits .i64))))), (Go.IntKind.wrap .u8 (Int.fdiv x.2 (2 ^ (min (Int.toNat (16 : Int)) (Go.IntKind.bits .i64))))), (Go.IntKind.wrap .u8 (Int.fdiv x.2 (2 ^ (min (Int.toNat (8 : Int)) (Go.IntKind.bits .i64))))), (Go.IntKind.wrap .u8 x.2)] : List E_u8)) * 1 < 140737488355328 then some ((([] : List E_u8) ++ x.1) ++ ([(Go.IntKind.wrap .u8 (Int.fdiv x.2 (2 ^ (min (Int.toNat (24 : Int)) (Go.IntKind.bits .i64))))), (Go.IntKind.wrap .u8 (Int.fdiv x.2 (2 ^ (min (Int.toNat (16 : Int)) (Go.IntKind.bits .i64))))), (Go.IntKind.wrap .u8 (Int.fdiv x.2 (2 ^ (min (Int.toNat (8 : Int)) (Go.IntKind.bits .i64))))), (Go.IntKind.wrap .u8 x.2)] : List E_u8)) else none else none
theorem ev64 : EV [] lpN 64 Try.f64 sg64 qz7 [(.sl 5 ts_u8)] F_spec_l17Four := fun x => by kernel_rfl
noncomputable def q64 : QF := ⟨64, F_spec_l17Four, okN (n := 0) Try.func64 (by kernel_rfl) (by kernel_rfl) trivial ev64⟩
abbrev T_spec_Crc_7 : Type := Qz10
noncomputable def S_spec_Crc_7 {R : Type} (k0 : Qz11 → Option R) (again : T_spec_Crc_7 → Option R) (t7 : T_spec_Crc_7) : Option R :=
  bif (decide (t7.2.2.2 < (8 : Int))) then bif ((Go.bits .and .i64 t7.2.1 (1 : Int)) == (1 : Int)) then again (t7.1, (Go.bits .xor .i64 (Int.fdiv t7.2.1 (2 ^ (min (Int.toNat (1 : Int)) (Go.IntKind.bits .i64)))) (2197175160 : Int)), t7.2.2.1, (Go.IntKind.wrap .i64 (t7.2.2.2 + (1 : Int)))) else again (t7.1, (Int.fdiv t7.2.1 (2 ^ (min (Int.toNat (1 : Int)) (Go.IntKind.bits .i64)))), t7.2.2.1, (Go.IntKind.wrap .i64 (t7.2.2.2 + (1 : Int)))) else k0 (t7.1, t7.2.1, t7.2.2.1)
noncomputable def L_spec_Crc_7 {R : Type} (k0 : Qz11 → Option R) (t : T_spec_Crc_7) : Option R := iter (S_spec_Crc_7 k0) FUEL t
abbrev T_spec_Crc_3 : Type := Qz11
noncomputable def S_spec_Crc_3 {R : Type} (k0 : Int → Option R) (again : T_spec_Crc_3 → Option R) (t3 : T_spec_Crc_3) : Option R :=
  bif (decide (t3.2.2 < ((List.length t3.1 : Nat) : Int))) then if (0 : Int) ≤ t3.2.2 then if t3.2.2 < ((List.length t3.1 : Nat) : Int) then L_spec_Crc_7 (fun x1 => again (x1.1, x1.2.1, (Go.IntKind.wrap .i64 (x1.2.2 + (1 : Int))))) (t3.1, (Go.bits .xor .i64 t3.2.1 (Go.IntKind.wrap .i64 (rd_u8 t3.1 t3.2.2))), t3.2.2, (0 : Int)) else none else none else k0 t3.2.1
noncomputable def L_spec_Crc_3 {R : Type} (k0 : Int → Option R) (t : T_spec_Crc_3) : Option R := iter (S_spec_Crc_3 k0) FUEL t
noncomputable def F_spec_Crc (x : List E_u8) : Option Int :=
  L_spec_Crc_3 (fun x2 => some (Go.bits .xor .i64 x2 (4294967295 : Int))) (x, (4294967295 : Int), (0 : Int))
noncomputable def f65Q : List QF := []
def f65e7_0 (t : Qz10) : St := ⟨v_u8 t.1 :: dd 2 (vI t.2.1 :: vI t.2.2.1 :: vI t.2.2.2 :: dd 27 []), []⟩
noncomputable def f65g7 : Gk T_spec_Crc_7 := fun κ => S_spec_Crc_7 (fun t => κ (some 2) ⟨v_u8 t.1 :: dd 2 (vI t.2.1 :: vI t.2.2 :: dd 28 []), []⟩)
def f65e3_0 (t : Qz11) : St := ⟨v_u8 t.1 :: dd 2 (vI t.2.1 :: vI t.2.2 :: dd 28 []), []⟩
noncomputable def f65g3 : Gk T_spec_Crc_3 := fun κ => S_spec_Crc_3 (fun t => κ (some 0) ⟨dd 3 (vI t :: dd 29 []), []⟩)
noncomputable def f65P : Lp := lpC 3 (unG qz11 f65e3_0) @f65g3 (lpC 7 (unG qz10 f65e7_0) @f65g7 lpN)
theorem f65C7 : LF f65Q f65P 65 7 Try.f65 1 f65e7_0 @f65g7 fun t => t := fun R κ again t => by kernel_rfl
theorem f65k7 : LK f65Q f65P 65 Try.f65 1 := loop_okG (u := (unG qz10 f65e7_0)) (by kernel_rfl) (unG_ok fun t => by kernel_rfl) (fun R κ s => by kernel_rfl) f65C7
theorem f65C3 : LF f65Q f65P 65 3 Try.f65 0 f65e3_0 @f65g3 fun t => t := fun R κ again t => by kernel_rfl
theorem f65k3 : LK f65Q f65P 65 Try.f65 0 := loop_okG (u := (unG qz11 f65e3_0)) (by kernel_rfl) (unG_ok fun t => by kernel_rfl) (fun R κ s => by kernel_rfl) f65C3
theorem ev65 : EV f65Q f65P 65 Try.f65 sg65 [(.sl 5 ts_u8)] [(.int .i64)] F_spec_Crc := fun x => by kernel_rfl
noncomputable def q65 : QF := ⟨65, F_spec_Crc, okN (n := 2) Try.func65 (by kernel_rfl) (by kernel_rfl) ⟨f65k3, f65k7, trivial⟩ ev65⟩
noncomputable def F_spec_PutEnt (x : Qz6) : Option (List E_u8) :=
  Option.bind (F_spec_EntOk (x.1, x.2.1, x.2.2.1, x.2.2.2.1, x.2.2.2.2.1, x.2.2.2.2.2)) fun r1 => bif (!r1) then some ([] : List E_u8) else Option.bind (F_spec_PutW (([] : List E_u8), x.1)) fun r2 => Option.bind (F_spec_PutOp (r2, x.2.1, x.2.2.1, x.2.2.2.1, x.2.2.2.2.1, x.2.2.2.2.2)) fun r3 => Option.bind (F_spec_Crc r3) fun r4 => Option.bind (F_spec_l17Four (r3, r4)) fun r5 => some r5
theorem ev12 : EV [q49, q62, q63, q64, q65] lpN 12 Try.f12 sg12 qz6 [(.sl 5 ts_u8)] F_spec_PutEnt := fun x => by kernel_rfl
noncomputable def q12 : QF := ⟨12, F_spec_PutEnt, okN (n := 0) Try.func12 (by kernel_rfl) (by kernel_rfl) trivial ev12⟩
noncomputable def F_laws_toOp (x : Qz5) : Option Qz5 :=
  some (x.1, x.2.1, x.2.2.1, x.2.2.2.1, x.2.2.2.2)
theorem ev66 : EV [] lpN 66 Try.f66 sg66 qz5 qz5 F_laws_toOp := fun x => by kernel_rfl
noncomputable def q66 : QF := ⟨66, F_laws_toOp, okN (n := 0) Try.func66 (by kernel_rfl) (by kernel_rfl) trivial ev66⟩
noncomputable def F_laws_toEnt (x : Qz6) : Option Qz6 :=
  Option.bind (F_laws_toOp (x.2.1, x.2.2.1, x.2.2.2.1, x.2.2.2.2.1, x.2.2.2.2.2)) fun r1 => some (x.1, r1.1, r1.2.1, r1.2.2.1, r1.2.2.2.1, r1.2.2.2.2)
theorem ev13 : EV [q66] lpN 13 Try.f13 sg13 qz6 qz6 F_laws_toEnt := fun x => by kernel_rfl
noncomputable def q13 : QF := ⟨13, F_laws_toEnt, okN (n := 0) Try.func13 (by kernel_rfl) (by kernel_rfl) trivial ev13⟩
noncomputable def F_impl_within (x : Qz2) : Option Bool :=
  Option.bind (bif (decide (x.1 ≥ x.2.1)) then some (decide (x.1 ≤ x.2.2)) else some false) fun u1 => some u1
theorem ev85 : EV [] lpN 85 Try.f85 sg85 qz2 [.bool] F_impl_within := fun x => by kernel_rfl
noncomputable def q85 : QF := ⟨85, F_impl_within, okN (n := 0) Try.func85 (by kernel_rfl) (by kernel_rfl) trivial ev85⟩
noncomputable def F_impl_isWord (x : Int) : Option Bool :=
  Option.bind (F_impl_within (x, (0 : Int), (65535 : Int))) fun r1 => some r1
theorem ev142 : EV [q85] lpN 142 Try.f142 sg142 [(.int .i64)] [.bool] F_impl_isWord := fun x => by kernel_rfl
noncomputable def q142 : QF := ⟨142, F_impl_isWord, okN (n := 0) Try.func142 (by kernel_rfl) (by kernel_rfl) trivial ev142⟩
abbrev T_impl_NameOk_2 : Type := Qz3
noncomputable def S_impl_NameOk_2 {R : Type} (k0 : Qz4 → Option R) (k1 : ByteArray → Option R) (again : T_impl_NameOk_2 → Option R) (t2 : T_impl_NameOk_2) : Option R :=
  bif (decide (t2.2 < ((ByteArray.size t2.1 : Nat) : Int))) then if (0 : Int) ≤ t2.2 then if h1 : Int.toNat t2.2 < ByteArray.size t2.1 then Option.bind (F_impl_within ((Go.IntKind.wrap .i64 ((UInt8.toNat (ByteArray.get t2.1 (Int.toNat t2.2) h1) : Nat) : Int)), (97 : Int), (122 : Int))) fun r2 => Option.bind (bif (!r2) then if (0 : Int) ≤ t2.2 then if h4 : Int.toNat t2.2 < ByteArray.size t2.1 then Option.bind (F_impl_within ((Go.IntKind.wrap .i64 ((UInt8.toNat (ByteArray.get t2.1 (Int.toNat t2.2) h4) : Nat) : Int)), (48 : Int), (57 : Int))) fun r5 => some (!r5) else none else none else some false) fun u3 => bif u3 then k0 (t2.1, false) else again (t2.1, (Go.IntKind.wrap .i64 (t2.2 + (1 : Int)))) else none else none else k1 t2.1
noncomputable def L_impl_NameOk_2 {R : Type} (k0 : Qz4 → Option R) (k1 : ByteArray → Option R) (t : T_impl_NameOk_2) : Option R := iter (S_impl_NameOk_2 k0 k1) FUEL t
noncomputable def F_impl_NameOk (x : ByteArray) : Option Bool :=
  L_impl_NameOk_2 (fun x6 => some x6.2) (fun x7 => Option.bind (F_impl_within (((ByteArray.size x7 : Nat) : Int), (1 : Int), (6 : Int))) fun r8 => some r8) (x, (0 : Int))
noncomputable def f143Q : List QF := [q85]
def f143e2_0 (t : Qz3) : St := ⟨vS t.1 :: dd 2 (vI t.2 :: dd 23 []), []⟩
noncomputable def f143g2 : Gk T_impl_NameOk_2 := fun κ => S_impl_NameOk_2 (fun t => κ none ⟨vS t.1 :: .dead :: vB t.2 :: dd 24 [], []⟩) (fun t => κ (some 0) ⟨vS t :: dd 26 [], []⟩)
noncomputable def f143P : Lp := lpC 2 (unG qz3 f143e2_0) @f143g2 lpN
theorem f143C2 : LF f143Q f143P 143 2 Try.f143 0 f143e2_0 @f143g2 fun t => t := fun R κ again t => by kernel_rfl
theorem f143k2 : LK f143Q f143P 143 Try.f143 0 := loop_okG (u := (unG qz3 f143e2_0)) (by kernel_rfl) (unG_ok fun t => by kernel_rfl) (fun R κ s => by kernel_rfl) f143C2
theorem ev143 : EV f143Q f143P 143 Try.f143 sg143 [.str] [.bool] F_impl_NameOk := fun x => by kernel_rfl
noncomputable def q143 : QF := ⟨143, F_impl_NameOk, okN (n := 1) Try.func143 (by kernel_rfl) (by kernel_rfl) ⟨f143k2, trivial⟩ ev143⟩
noncomputable def F_impl_OpOk (x : Qz5) : Option Bool :=
  Option.bind (F_impl_within (x.1, (1 : Int), (9 : Int))) fun r1 => Option.bind (bif (!r1) then some true else Option.bind (F_impl_isWord x.2.2.2.1) fun r3 => some (!r3)) fun u2 => Option.bind (bif u2 then some true else Option.bind (F_impl_isWord x.2.2.2.2) fun r5 => some (!r5)) fun u4 => bif u4 then some false else bif (decide (x.1 ≤ (6 : Int))) then Option.bind (F_impl_NameOk x.2.1) fun r6 => bif (x.1 == (2 : Int)) then Option.bind (F_impl_NameOk x.2.2.1) fun r7 => bif (x.1 == (2 : Int)) then Option.bind (bif (x.2.2.2.1 == (0 : Int)) then some (decide (x.2.2.2.2 ≤ (1 : Int))) else some false) fun u8 => Option.bind (bif r6 then some r7 else some false) fun u9 => Option.bind (bif u9 then some u8 else some false) fun u10 => some u10 else bif (x.1 == (3 : Int)) then bif (x.1 == (3 : Int)) then Option.bind (bif (x.2.2.2.1 == (0 : Int)) then some (x.2.2.2.2 == (0 : Int)) else some false) fun u11 => Option.bind (bif r6 then some r7 else some false) fun u12 => Option.bind (bif u12 then some u11 else some false) fun u13 => some u13 else bif (x.1 == (4 : Int)) then Option.bind (bif r6 then some r7 else some false) fun u14 => Option.bind (bif u14 then some true else some false) fun u15 => some u15 else Option.bind (bif r6 then some r7 else some false) fun u16 => Option.bind (bif u16 then some (x.2.2.2.2 == (0 : Int)) else some false) fun u17 => some u17 else bif (x.1 == (7 : Int)) then Option.bind (bif (x.2.2.2.1 == (0 : Int)) then some (x.2.2.2.2 == (0 : Int)) else some false) fun u18 => Option.bind (bif r6 then some r7 else some false) fun u19 => Option.bind (bif u19 then some u18 else some false) fun u20 => some u20 else bif (x.1 == (4 : Int)) then Option.bind (bif r6 then some r7 else some false) fun u21 => Option.bind (bif u21 then some true else some false) fun u22 => some u22 else Option.bind (bif r6 then some r7 else some false) fun u23 => Option.bind (bif u23 then some (x.2.2.2.2 == (0 : Int)) else some false) fun u24 => some u24 else bif (x.1 == (2 : Int)) then Option.bind (bif (x.2.2.2.1 == (0 : Int)) then some (decide (x.2.2.2.2 ≤ (1 : Int))) else some false) fun u25 => Option.bind (bif r6 then some ((ByteArray.toList x.2.2.1) == (ByteArray.toList ({ data := #[] }))) else some false) fun u26 => Option.bind (bif u26 then some u25 else some false) fun u27 => some u27 else bif (x.1 == (3 : Int)) then bif (x.1 == (3 : Int)) then Option.bind (bif (x.2.2.2.1 == (0 : Int)) then some (x.2.2.2.2 == (0 : Int)) else some false) fun u28 => Option.bind (bif r6 then some ((ByteArray.toList x.2.2.1) == (ByteArray.toList ({ data := #[] }))) else some false) fun u29 => Option.bind (bif u29 then some u28 else some false) fun u30 => some u30 else bif (x.1 == (4 : Int)) then Option.bind (bif r6 then some ((ByteArray.toList x.2.2.1) == (ByteArray.toList ({ data := #[] }))) else some false) fun u31 => Option.bind (bif u31 then some true else some false) fun u32 => some u32 else Option.bind (bif r6 then some ((ByteArray.toList x.2.2.1) == (ByteArray.toList ({ data := #[] }))) else some false) fun u33 => Option.bind (bif u33 then some (x.2.2.2.2 == (0 : Int)) else some false) fun u34 => some u34 else bif (x.1 == (7 : Int)) then Option.bind (bif (x.2.2.2.1 == (0 : Int)) then some (x.2.2.2.2 == (0 : Int)) else some false) fun u35 => Option.bind (bif r6 then some ((ByteArray.toList x.2.2.1) == (ByteArray.toList ({ data := #[] }))) else some false) fun u36 => Option.bind (bif u36 then some u35 else some false) fun u37 => some u37 else bif (x.1 == (4 : Int)) then Option.bind (bif r6 then some ((ByteArray.toList x.2.2.1) == (ByteArray.toList ({ data := #[] }))) else some false) fun u38 => Option.bind (bif u38 then some true else some false) fun u39 => some u39 else Option.bind (bif r6 then some ((ByteArray.toList x.2.2.1) == (ByteArray.toList ({ data := #[] }))) else some false) fun u40 => Option.bind (bif u40 then some (x.2.2.2.2 == (0 : Int)) else some false) fun u41 => some u41 else bif (x.1 == (2 : Int)) then Option.bind (F_impl_NameOk x.2.2.1) fun r42 => bif (x.1 == (2 : Int)) then Option.bind (bif (x.2.2.2.1 == (0 : Int)) then some (decide (x.2.2.2.2 ≤ (1 : Int))) else some false) fun u43 => Option.bind (bif ((ByteArray.toList x.2.1) == (ByteArray.toList ({ data := #[] }))) then some r42 else some false) fun u44 => Option.bind (bif u44 then some u43 else some false) fun u45 => some u45 else bif (x.1 == (3 : Int)) then bif (x.1 == (3 : Int)) then Option.bind (bif (x.2.2.2.1 == (0 : Int)) then some (x.2.2.2.2 == (0 : Int)) else some false) fun u46 => Option.bind (bif ((ByteArray.toList x.2.1) == (ByteArray.toList ({ data := #[] }))) then some r42 else some false) fun u47 => Option.bind (bif u47 then some u46 else some false) fun u48 => some u48 else bif (x.1 == (4 : Int)) then Option.bind (bif ((ByteArray.toList x.2.1) == (ByteArray.toList ({ data := #[] }))) then some r42 else some false) fun u49 => Option.bind (bif u49 then some true else some false) fun u50 => some u50 else Option.bind (bif ((ByteArray.toList x.2.1) == (ByteArray.toList ({ data := #[] }))) then some r42 else some false) fun u51 => Option.bind (bif u51 then some (x.2.2.2.2 == (0 : Int)) else some false) fun u52 => some u52 else bif (x.1 == (7 : Int)) then Option.bind (bif (x.2.2.2.1 == (0 : Int)) then some (x.2.2.2.2 == (0 : Int)) else some false) fun u53 => Option.bind (bif ((ByteArray.toList x.2.1) == (ByteArray.toList ({ data := #[] }))) then some r42 else some false) fun u54 => Option.bind (bif u54 then some u53 else some false) fun u55 => some u55 else bif (x.1 == (4 : Int)) then Option.bind (bif ((ByteArray.toList x.2.1) == (ByteArray.toList ({ data := #[] }))) then some r42 else some false) fun u56 => Option.bind (bif u56 then some true else some false) fun u57 => some u57 else Option.bind (bif ((ByteArray.toList x.2.1) == (ByteArray.toList ({ data := #[] }))) then some r42 else some false) fun u58 => Option.bind (bif u58 then some (x.2.2.2.2 == (0 : Int)) else some false) fun u59 => some u59 else bif (x.1 == (2 : Int)) then Option.bind (bif (x.2.2.2.1 == (0 : Int)) then some (decide (x.2.2.2.2 ≤ (1 : Int))) else some false) fun u60 => Option.bind (bif ((ByteArray.toList x.2.1) == (ByteArray.toList ({ data := #[] }))) then some ((ByteArray.toList x.2.2.1) == (ByteArray.toList ({ data := #[] }))) else some false) fun u61 => Option.bind (bif u61 then some u60 else some false) fun u62 => some u62 else bif (x.1 == (3 : Int)) then bif (x.1 == (3 : Int)) then Option.bind (bif (x.2.2.2.1 == (0 : Int)) then some (x.2.2.2.2 == (0 : Int)) else some false) fun u63 => Option.bind (bif ((ByteArray.toList x.2.1) == (ByteArray.toList ({ data := #[] }))) then some ((ByteArray.toList x.2.2.1) == (ByteArray.toList ({ data := #[] }))) else some false) fun u64 => Option.bind (bif u64 then some u63 else some false) fun u65 => some u65 else bif (x.1 == (4 : Int)) then Option.bind (bif ((ByteArray.toList x.2.1) == (ByteArray.toList ({ data := #[] }))) then some ((ByteArray.toList x.2.2.1) == (ByteArray.toList ({ data := #[] }))) else some false) fun u66 => Option.bind (bif u66 then some true else some false) fun u67 => some u67 else Option.bind (bif ((ByteArray.toList x.2.1) == (ByteArray.toList ({ data := #[] }))) then some ((ByteArray.toList x.2.2.1) == (ByteArray.toList ({ data := #[] }))) else some false) fun u68 => Option.bind (bif u68 then some (x.2.2.2.2 == (0 : Int)) else some false) fun u69 => some u69 else bif (x.1 == (7 : Int)) then Option.bind (bif (x.2.2.2.1 == (0 : Int)) then some (x.2.2.2.2 == (0 : Int)) else some false) fun u70 => Option.bind (bif ((ByteArray.toList x.2.1) == (ByteArray.toList ({ data := #[] }))) then some ((ByteArray.toList x.2.2.1) == (ByteArray.toList ({ data := #[] }))) else some false) fun u71 => Option.bind (bif u71 then some u70 else some false) fun u72 => some u72 else bif (x.1 == (4 : Int)) then Option.bind (bif ((ByteArray.toList x.2.1) == (ByteArray.toList ({ data := #[] }))) then some ((ByteArray.toList x.2.2.1) == (ByteArray.toList ({ data := #[] }))) else some false) fun u73 => Option.bind (bif u73 then some true else some false) fun u74 => some u74 else Option.bind (bif ((ByteArray.toList x.2.1) == (ByteArray.toList ({ data := #[] }))) then some ((ByteArray.toList x.2.2.1) == (ByteArray.toList ({ data := #[] }))) else some false) fun u75 => Option.bind (bif u75 then some (x.2.2.2.2 == (0 : Int)) else some false) fun u76 => some u76
theorem ev109 : EV [q85, q142, q143] lpN 109 Try.f109 sg109 qz5 [.bool] F_impl_OpOk := fun x => by kernel_rfl
noncomputable def q109 : QF := ⟨109, F_impl_OpOk, okN (n := 0) Try.func109 (by kernel_rfl) (by kernel_rfl) trivial ev109⟩
noncomputable def F_impl_EntOk (x : Qz6) : Option Bool :=
  Option.bind (F_impl_within (x.1, (1 : Int), (60000 : Int))) fun r1 => Option.bind (bif r1 then Option.bind (F_impl_OpOk (x.2.1, x.2.2.1, x.2.2.2.1, x.2.2.2.2.1, x.2.2.2.2.2)) fun r3 => some r3 else some false) fun u2 => some u2
theorem ev48 : EV [q85, q109] lpN 48 Try.f48 sg48 qz6 [.bool] F_impl_EntOk := fun x => by kernel_rfl
noncomputable def q48 : QF := ⟨48, F_impl_EntOk, okN (n := 0) Try.func48 (by kernel_rfl) (by kernel_rfl) trivial ev48⟩
abbrev T_impl_joined_3 : Type := Qz12
noncomputable def S_impl_joined_3 {R : Type} (k0 : List E_u8 → Option R) (again : T_impl_joined_3 → Option R) (t3 : T_impl_joined_3) : Option R :=
  bif (decide (t3.2.2.1 < t3.2.1)) then if (0 : Int) ≤ t3.2.2.1 then if t3.2.2.1 < ((List.length t3.1 : Nat) : Int) then if (List.length t3.2.2.2 + List.length (rd_s_u8 t3.1 t3.2.2.1)) * 1 < 140737488355328 then again (t3.1, t3.2.1, (Go.IntKind.wrap .i64 (t3.2.2.1 + (1 : Int))), (t3.2.2.2 ++ (rd_s_u8 t3.1 t3.2.2.1))) else none else none else none else k0 t3.2.2.2
noncomputable def L_impl_joined_3 {R : Type} (k0 : List E_u8 → Option R) (t : T_impl_joined_3) : Option R := iter (S_impl_joined_3 k0) FUEL t
noncomputable def F_impl_joined (x : List E_s_u8) : Option (List E_u8) :=
  L_impl_joined_3 (fun x1 => some x1) (x, ((List.length x : Nat) : Int), (0 : Int), ([] : List E_u8))
noncomputable def f129Q : List QF := []
def f129e3_0 (t : Qz12) : St := ⟨dd 3 (.own 10000000 :: dd 3 (v_s_u8 t.1 :: vI t.2.1 :: vI t.2.2.1 :: dd 8 [])), [(10000000, .root true 5 ts_u8 t.2.2.2)]⟩
noncomputable def f129g3 : Gk T_impl_joined_3 := fun κ => S_impl_joined_3 (fun t => κ (some 0) ⟨dd 3 (.own 10000000 :: dd 14 []), [(10000000, .root true 5 ts_u8 t)]⟩)
noncomputable def f129P : Lp := lpC 3 (unG qz12 f129e3_0) @f129g3 lpN
theorem f129C3 : LF f129Q f129P 129 3 Try.f129 0 f129e3_0 @f129g3 fun t => t := fun R κ again t => by kernel_rfl
theorem f129k3 : LK f129Q f129P 129 Try.f129 0 := loop_okG (u := (unG qz12 f129e3_0)) (by kernel_rfl) (unG_ok fun t => by kernel_rfl) (fun R κ s => by kernel_rfl) f129C3
theorem ev129 : EV f129Q f129P 129 Try.f129 sg129 [(.sl 27 ts_s_u8)] [(.sl 5 ts_u8)] F_impl_joined := fun x => by kernel_rfl
noncomputable def q129 : QF := ⟨129, F_impl_joined, okN (n := 1) Try.func129 (by kernel_rfl) (by kernel_rfl) ⟨f129k3, trivial⟩ ev129⟩
noncomputable def F_impl_PutW (x : Qz7) : Option (List E_u8) :=
  Option.bind (F_impl_joined ([x.1, ([(Go.IntKind.wrap .u8 (Go.bits .and .i64 (Int.fdiv x.2 (2 ^ (min (Int.toNat (8 : Int)) (Go.IntKind.bits .i64)))) (255 : Int))), (Go.IntKind.wrap .u8 (Go.bits .and .i64 x.2 (255 : Int)))] : List E_u8)] : List E_s_u8)) fun r1 => some r1
theorem ev68 : EV [q129] lpN 68 Try.f68 sg68 qz7 [(.sl 5 ts_u8)] F_impl_PutW := fun x => by kernel_rfl
noncomputable def q68 : QF := ⟨68, F_impl_PutW, okN (n := 0) Try.func68 (by kernel_rfl) (by kernel_rfl) trivial ev68⟩
noncomputable def F_impl_PutText (x : Qz8) : Option (List E_u8) :=
  bif (decide (((ByteArray.size x.2 : Nat) : Int) > (60 : Int))) then Option.bind (F_impl_joined ([x.1] : List E_s_u8)) fun r1 => some r1 else Option.bind (F_impl_PutW (x.1, ((ByteArray.size x.2 : Nat) : Int))) fun r2 => if ByteArray.size x.2 < 140737488351232 then Option.bind (F_impl_joined ([r2, (bytesL x.2)] : List E_s_u8)) fun r3 => some r3 else none
theorem ev131 : EV [q68, q129] lpN 131 Try.f131 sg131 qz8 [(.sl 5 ts_u8)] F_impl_PutText := fun x => by kernel_rfl
noncomputable def q131 : QF := ⟨131, F_impl_PutText, okN (n := 0) Try.func131 (by kernel_rfl) (by kernel_rfl) trivial ev131⟩
noncomputable def F_impl_PutOp (x : Qz9) : Option (List E_u8) :=
  Option.bind (F_impl_OpOk (x.2.1, x.2.2.1, x.2.2.2.1, x.2.2.2.2.1, x.2.2.2.2.2)) fun r1 => bif (!r1) then Option.bind (F_impl_joined ([x.1] : List E_s_u8)) fun r2 => some r2 else Option.bind (F_impl_joined ([x.1, ([(Go.IntKind.wrap .u8 x.2.1)] : List E_u8)] : List E_s_u8)) fun r3 => Option.bind (F_impl_PutText (r3, x.2.2.1)) fun r4 => Option.bind (F_impl_PutText (r4, x.2.2.2.1)) fun r5 => Option.bind (F_impl_PutW (r5, x.2.2.2.2.1)) fun r6 => Option.bind (F_impl_PutW (r6, x.2.2.2.2.2)) fun r7 => some r7
theorem ev67 : EV [q68, q109, q129, q131] lpN 67 Try.f67 sg67 qz9 [(.sl 5 ts_u8)] F_impl_PutOp := fun x => by kernel_rfl
noncomputable def q67 : QF := ⟨67, F_impl_PutOp, okN (n := 0) Try.func67 (by kernel_rfl) (by kernel_rfl) trivial ev67⟩
noncomputable def F_impl_put4 (x : Qz7) : Option (List E_u8) :=
  Option.bind (F_impl_PutW (x.1, (Int.fdiv x.2 (2 ^ (min (Int.toNat (16 : Int)) (Go.IntKind.bits .i64)))))) fun r1 => Option.bind (F_impl_PutW (r1, x.2)) fun r2 => some r2
theorem ev69 : EV [q68] lpN 69 Try.f69 sg69 qz7 [(.sl 5 ts_u8)] F_impl_put4 := fun x => by kernel_rfl
noncomputable def q69 : QF := ⟨69, F_impl_put4, okN (n := 0) Try.func69 (by kernel_rfl) (by kernel_rfl) trivial ev69⟩
abbrev T_impl_Crc_7 : Type := Qz13
noncomputable def S_impl_Crc_7 {R : Type} (k0 : Qz14 → Option R) (again : T_impl_Crc_7 → Option R) (t7 : T_impl_Crc_7) : Option R :=
  bif (decide (t7.2.2.2.2 < (8 : Int))) then bif ((Int.tmod t7.1 (2 : Int)) == (1 : Int)) then again ((Go.bits .xor .i64 (Go.IntKind.wrap .i64 (Int.tdiv t7.1 (2 : Int))) (2197175160 : Int)), t7.2.1, t7.2.2.1, t7.2.2.2.1, (Go.IntKind.wrap .i64 (t7.2.2.2.2 + (1 : Int)))) else again ((Go.IntKind.wrap .i64 (Int.tdiv t7.1 (2 : Int))), t7.2.1, t7.2.2.1, t7.2.2.2.1, (Go.IntKind.wrap .i64 (t7.2.2.2.2 + (1 : Int)))) else k0 (t7.1, t7.2.1, t7.2.2.1, t7.2.2.2.1)
noncomputable def L_impl_Crc_7 {R : Type} (k0 : Qz14 → Option R) (t : T_impl_Crc_7) : Option R := iter (S_impl_Crc_7 k0) FUEL t
abbrev T_impl_Crc_3 : Type := Qz14
noncomputable def S_impl_Crc_3 {R : Type} (k0 : Int → Option R) (again : T_impl_Crc_3 → Option R) (t3 : T_impl_Crc_3) : Option R :=
  bif (decide (t3.2.2.2 < t3.2.2.1)) then if (0 : Int) ≤ t3.2.2.2 then if t3.2.2.2 < ((List.length t3.2.1 : Nat) : Int) then L_impl_Crc_7 (fun x1 => again (x1.1, x1.2.1, x1.2.2.1, (Go.IntKind.wrap .i64 (x1.2.2.2 + (1 : Int))))) ((Go.bits .xor .i64 t3.1 (Go.IntKind.wrap .i64 (rd_u8 t3.2.1 t3.2.2.2))), t3.2.1, t3.2.2.1, t3.2.2.2, (0 : Int)) else none else none else k0 t3.1
noncomputable def L_impl_Crc_3 {R : Type} (k0 : Int → Option R) (t : T_impl_Crc_3) : Option R := iter (S_impl_Crc_3 k0) FUEL t
noncomputable def F_impl_Crc (x : List E_u8) : Option Int :=
  L_impl_Crc_3 (fun x2 => some (Go.bits .xor .i64 x2 (4294967295 : Int))) ((4294967295 : Int), x, ((List.length x : Nat) : Int), (0 : Int))
noncomputable def f70Q : List QF := []
def f70e7_0 (t : Qz13) : St := ⟨dd 3 (vI t.1 :: dd 3 (v_u8 t.2.1 :: vI t.2.2.1 :: vI t.2.2.2.1 :: dd 7 (vI t.2.2.2.2 :: dd 13 []))), []⟩
noncomputable def f70g7 : Gk T_impl_Crc_7 := fun κ => S_impl_Crc_7 (fun t => κ (some 2) ⟨dd 3 (vI t.1 :: dd 3 (v_u8 t.2.1 :: vI t.2.2.1 :: vI t.2.2.2 :: dd 21 [])), []⟩)
def f70e3_0 (t : Qz14) : St := ⟨dd 3 (vI t.1 :: dd 3 (v_u8 t.2.1 :: vI t.2.2.1 :: vI t.2.2.2 :: dd 21 [])), []⟩
noncomputable def f70g3 : Gk T_impl_Crc_3 := fun κ => S_impl_Crc_3 (fun t => κ (some 0) ⟨dd 3 (vI t :: dd 27 []), []⟩)
noncomputable def f70P : Lp := lpC 3 (unG qz14 f70e3_0) @f70g3 (lpC 7 (unG qz13 f70e7_0) @f70g7 lpN)
theorem f70C7 : LF f70Q f70P 70 7 Try.f70 1 f70e7_0 @f70g7 fun t => t := fun R κ again t => by kernel_rfl
theorem f70k7 : LK f70Q f70P 70 Try.f70 1 := loop_okG (u := (unG qz13 f70e7_0)) (by kernel_rfl) (unG_ok fun t => by kernel_rfl) (fun R κ s => by kernel_rfl) f70C7
theorem f70C3 : LF f70Q f70P 70 3 Try.f70 0 f70e3_0 @f70g3 fun t => t := fun R κ again t => by kernel_rfl
theorem f70k3 : LK f70Q f70P 70 Try.f70 0 := loop_okG (u := (unG qz14 f70e3_0)) (by kernel_rfl) (unG_ok fun t => by kernel_rfl) (fun R κ s => by kernel_rfl) f70C3
theorem ev70 : EV f70Q f70P 70 Try.f70 sg70 [(.sl 5 ts_u8)] [(.int .i64)] F_impl_Crc := fun x => by kernel_rfl
noncomputable def q70 : QF := ⟨70, F_impl_Crc, okN (n := 2) Try.func70 (by kernel_rfl) (by kernel_rfl) ⟨f70k3, f70k7, trivial⟩ ev70⟩
noncomputable def F_impl_PutEnt (x : Qz6) : Option (List E_u8) :=
  Option.bind (F_impl_EntOk (x.1, x.2.1, x.2.2.1, x.2.2.2.1, x.2.2.2.2.1, x.2.2.2.2.2)) fun r1 => bif (!r1) then some ([] : List E_u8) else Option.bind (F_impl_PutW (([] : List E_u8), x.1)) fun r2 => Option.bind (F_impl_PutOp (r2, x.2.1, x.2.2.1, x.2.2.2.1, x.2.2.2.2.1, x.2.2.2.2.2)) fun r3 => Option.bind (F_impl_Crc r3) fun r4 => Option.bind (F_impl_put4 (r3, r4)) fun r5 => some r5
theorem ev14 : EV [q48, q67, q68, q69, q70] lpN 14 Try.f14 sg14 qz6 [(.sl 5 ts_u8)] F_impl_PutEnt := fun x => by kernel_rfl
noncomputable def q14 : QF := ⟨14, F_impl_PutEnt, okN (n := 0) Try.func14 (by kernel_rfl) (by kernel_rfl) trivial ev14⟩
abbrev T_laws_eqByteS_4 : Type := Qz15
noncomputable def S_laws_eqByteS_4 {R : Type} (k0 : Bool → Option R) (k1 : Unit → Option R) (again : T_laws_eqByteS_4 → Option R) (t4 : T_laws_eqByteS_4) : Option R :=
  bif (decide (t4.2.2 < ((List.length t4.1 : Nat) : Int))) then if (0 : Int) ≤ t4.2.2 then if t4.2.2 < ((List.length t4.1 : Nat) : Int) then if (0 : Int) ≤ t4.2.2 then if t4.2.2 < ((List.length t4.2.1 : Nat) : Int) then bif ((rd_u8 t4.1 t4.2.2) != (rd_u8 t4.2.1 t4.2.2)) then k0 false else again (t4.1, t4.2.1, (Go.IntKind.wrap .i64 (t4.2.2 + (1 : Int)))) else none else none else none else none else k1 ()
noncomputable def L_laws_eqByteS_4 {R : Type} (k0 : Bool → Option R) (k1 : Unit → Option R) (t : T_laws_eqByteS_4) : Option R := iter (S_laws_eqByteS_4 k0 k1) FUEL t
noncomputable def F_laws_eqByteS (x : Qz16) : Option Bool :=
  bif (((List.length x.1 : Nat) : Int) != ((List.length x.2 : Nat) : Int)) then some false else L_laws_eqByteS_4 (fun x1 => some x1) (fun x2 => some true) (x.1, x.2, (0 : Int))
noncomputable def f15Q : List QF := []
def f15e4_0 (t : Qz15) : St := ⟨v_u8 t.1 :: v_u8 t.2.1 :: dd 3 (vI t.2.2 :: dd 20 []), []⟩
noncomputable def f15g4 : Gk T_laws_eqByteS_4 := fun κ => S_laws_eqByteS_4 (fun t => κ none ⟨dd 4 (vB t :: dd 21 []), []⟩) (fun t => κ (some 0) ⟨dd 26 [], []⟩)
noncomputable def f15P : Lp := lpC 4 (unG qz15 f15e4_0) @f15g4 lpN
theorem f15C4 : LF f15Q f15P 15 4 Try.f15 0 f15e4_0 @f15g4 fun t => t := fun R κ again t => by kernel_rfl
theorem f15k4 : LK f15Q f15P 15 Try.f15 0 := loop_okG (u := (unG qz15 f15e4_0)) (by kernel_rfl) (unG_ok fun t => by kernel_rfl) (fun R κ s => by kernel_rfl) f15C4
theorem ev15 : EV f15Q f15P 15 Try.f15 sg15 qz16 [.bool] F_laws_eqByteS := fun x => by kernel_rfl
noncomputable def q15 : QF := ⟨15, F_laws_eqByteS, okN (n := 1) Try.func15 (by kernel_rfl) (by kernel_rfl) ⟨f15k4, trivial⟩ ev15⟩
abbrev T_laws_markByteS_2 : Type := Qz17
noncomputable def S_laws_markByteS_2 {R : Type} (k0 : Qz18 → Option R) (again : T_laws_markByteS_2 → Option R) (t2 : T_laws_markByteS_2) : Option R :=
  bif (decide (t2.2.1 < ((List.length t2.2.2 : Nat) : Int))) then if (0 : Int) ≤ t2.2.1 then if t2.2.1 < ((List.length t2.2.2 : Nat) : Int) then again ((Go.IntKind.wrap .i64 (t2.1 + (1 : Int))), (Go.IntKind.wrap .i64 (t2.2.1 + (1 : Int))), (List.set t2.2.2 (Int.toNat t2.2.1) (Go.IntKind.wrap .u8 t2.1))) else none else none else k0 (t2.1, t2.2.2)
noncomputable def L_laws_markByteS_2 {R : Type} (k0 : Qz18 → Option R) (t : T_laws_markByteS_2) : Option R := iter (S_laws_markByteS_2 k0) FUEL t
noncomputable def F_laws_markByteS (x : Qz7) : Option Qz18 :=
  L_laws_markByteS_2 (fun x1 => some (x1.1, x1.2)) (x.2, (0 : Int), x.1)
noncomputable def f16Q : List QF := []
def f16e2_0 (t : Qz17) : St := ⟨.own 10000000 :: vI t.1 :: dd 3 (vI t.2.1 :: dd 14 []), [(10000000, .deep true 1 5 ts_u8 t.2.2)]⟩
noncomputable def f16g2 : Gk T_laws_markByteS_2 := fun κ => S_laws_markByteS_2 (fun t => κ (some 0) ⟨.own 10000000 :: vI t.1 :: dd 18 [], [(10000000, .deep true 1 5 ts_u8 t.2)]⟩)
noncomputable def f16P : Lp := lpC 2 (unG qz17 f16e2_0) @f16g2 lpN
theorem f16C2 : LF f16Q f16P 16 2 Try.f16 0 f16e2_0 @f16g2 fun t => t := fun R κ again t => by kernel_rfl
theorem f16k2 : LK f16Q f16P 16 Try.f16 0 := loop_okG (u := (unG qz17 f16e2_0)) (by kernel_rfl) (unG_ok fun t => by kernel_rfl) (fun R κ s => by kernel_rfl) f16C2
theorem ev16 : EV f16Q f16P 16 Try.f16 sg16 qz7 qz18 F_laws_markByteS := fun x => by kernel_rfl
noncomputable def q16 : QF := ⟨16, F_laws_markByteS, okN (n := 1) Try.func16 (by kernel_rfl) (by kernel_rfl) ⟨f16k2, trivial⟩ ev16⟩
abbrev T_laws_heldByteS_2 : Type := Qz11
noncomputable def S_laws_heldByteS_2 {R : Type} (k0 : Qz19 → Option R) (k1 : Int → Option R) (again : T_laws_heldByteS_2 → Option R) (t2 : T_laws_heldByteS_2) : Option R :=
  bif (decide (t2.2.2 < ((List.length t2.1 : Nat) : Int))) then if (0 : Int) ≤ t2.2.2 then if t2.2.2 < ((List.length t2.1 : Nat) : Int) then bif ((rd_u8 t2.1 t2.2.2) != (Go.IntKind.wrap .u8 t2.2.1)) then k0 (t2.2.1, (-1 : Int)) else again (t2.1, (Go.IntKind.wrap .i64 (t2.2.1 + (1 : Int))), (Go.IntKind.wrap .i64 (t2.2.2 + (1 : Int)))) else none else none else k1 t2.2.1
noncomputable def L_laws_heldByteS_2 {R : Type} (k0 : Qz19 → Option R) (k1 : Int → Option R) (t : T_laws_heldByteS_2) : Option R := iter (S_laws_heldByteS_2 k0 k1) FUEL t
noncomputable def F_laws_heldByteS (x : Qz7) : Option Int :=
  L_laws_heldByteS_2 (fun x1 => some x1.2) (fun x2 => some x2) (x.1, x.2, (0 : Int))
noncomputable def f17Q : List QF := []
def f17e2_0 (t : Qz11) : St := ⟨v_u8 t.1 :: vI t.2.1 :: dd 3 (vI t.2.2 :: dd 16 []), []⟩
noncomputable def f17g2 : Gk T_laws_heldByteS_2 := fun κ => S_laws_heldByteS_2 (fun t => κ none ⟨.dead :: vI t.1 :: dd 2 (vI t.2 :: dd 17 []), []⟩) (fun t => κ (some 0) ⟨.dead :: vI t :: dd 20 [], []⟩)
noncomputable def f17P : Lp := lpC 2 (unG qz11 f17e2_0) @f17g2 lpN
theorem f17C2 : LF f17Q f17P 17 2 Try.f17 0 f17e2_0 @f17g2 fun t => t := fun R κ again t => by kernel_rfl
theorem f17k2 : LK f17Q f17P 17 Try.f17 0 := loop_okG (u := (unG qz11 f17e2_0)) (by kernel_rfl) (unG_ok fun t => by kernel_rfl) (fun R κ s => by kernel_rfl) f17C2
theorem ev17 : EV f17Q f17P 17 Try.f17 sg17 qz7 [(.int .i64)] F_laws_heldByteS := fun x => by kernel_rfl
noncomputable def q17 : QF := ⟨17, F_laws_heldByteS, okN (n := 1) Try.func17 (by kernel_rfl) (by kernel_rfl) ⟨f17k2, trivial⟩ ev17⟩
noncomputable def F_laws_FnExactPutEnt (x : Qz6) : Option Bool :=
  Option.bind (F_laws_szEnt (x.1, x.2.1, x.2.2.1, x.2.2.2.1, x.2.2.2.2.1, x.2.2.2.2.2, (1048576 : Int))) fun r1 => bif (decide (r1 < (0 : Int))) then some true else Option.bind (F_laws_toEnt (x.1, x.2.1, x.2.2.1, x.2.2.2.1, x.2.2.2.2.1, x.2.2.2.2.2)) fun r2 => Option.bind (F_spec_PutEnt (r2.1, r2.2.1, r2.2.2.1, r2.2.2.2.1, r2.2.2.2.2.1, r2.2.2.2.2.2)) fun r3 => Option.bind (F_laws_toEnt (x.1, x.2.1, x.2.2.1, x.2.2.2.1, x.2.2.2.2.1, x.2.2.2.2.2)) fun r4 => Option.bind (F_impl_PutEnt (r4.1, r4.2.1, r4.2.2.1, r4.2.2.2.1, r4.2.2.2.2.1, r4.2.2.2.2.2)) fun r5 => Option.bind (F_laws_eqByteS (r5, r3)) fun r6 => bif (!r6) then some false else Option.bind (F_laws_markByteS (r5, (1 : Int))) fun r7 => Option.bind (F_laws_heldByteS (r7.2, (1 : Int))) fun r8 => bif (decide (r8 < (0 : Int))) then some false else bif (r8 != r7.1) then some false else Option.bind (F_laws_toEnt (x.1, x.2.1, x.2.2.1, x.2.2.2.1, x.2.2.2.2.1, x.2.2.2.2.2)) fun r9 => Option.bind (F_impl_PutEnt (r9.1, r9.2.1, r9.2.2.1, r9.2.2.2.1, r9.2.2.2.2.1, r9.2.2.2.2.2)) fun r10 => Option.bind (F_laws_eqByteS (r10, r3)) fun r11 => bif (!r11) then some false else Option.bind (F_laws_heldByteS (r7.2, (1 : Int))) fun r12 => bif (decide (r12 < (0 : Int))) then some false else bif (r12 != r7.1) then some false else some true
theorem ev3 : EV [q11, q12, q13, q14, q15, q16, q17] lpN 3 Try.f3 sg3 qz6 [.bool] F_laws_FnExactPutEnt := fun x => by kernel_rfl
noncomputable def q3 : QF := ⟨3, F_laws_FnExactPutEnt, okN (n := 0) Try.func3 (by kernel_rfl) (by kernel_rfl) trivial ev3⟩
end Go.Proofs.Ytmanmgafjbnakaa.XE
