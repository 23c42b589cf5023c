/- What functions compute, and that they do; part 0 of S; by a program (dec.py). No condition. -/
import Derived.Test.YtcabfgbcjiaenaaXS
namespace Go.Proofs.Ytcabfgbcjiaenaa.XS
open Go.Proofs.Ytcabfgbcjiaenaa.R
set_option linter.unusedVariables false
set_option maxRecDepth 100000

/-! ### 25: laws.eqByteS -/
abbrev T_laws_eqByteS_4 : Type := List E_u8 × List E_u8 × Int
noncomputable def S_laws_eqByteS_4 {R : Type} (k0 : Bool → Option R) (k1 : Unit → Option R) (again : T_laws_eqByteS_4 → Option R) (t4 : T_laws_eqByteS_4) : Option R :=
  bif (decide (t4.2.2 < ((List.length t4.1 : Nat) : Int))) then if (0 : Int) ≤ t4.2.2 then if t4.2.2 < ((List.length t4.1 : Nat) : Int) then if (0 : Int) ≤ t4.2.2 then if t4.2.2 < ((List.length t4.2.1 : Nat) : Int) then bif ((rd_u8 t4.1 t4.2.2) != (rd_u8 t4.2.1 t4.2.2)) then k0 false else again (t4.1, t4.2.1, (Go.IntKind.wrap .i64 (t4.2.2 + (1 : Int)))) else none else none else none else none else k1 ()
noncomputable def L_laws_eqByteS_4 {R : Type} (k0 : Bool → Option R) (k1 : Unit → Option R) (t : T_laws_eqByteS_4) : Option R := iter (S_laws_eqByteS_4 k0 k1) FUEL t
noncomputable def F_laws_eqByteS (x : List E_u8 × List E_u8) : Option (Bool) :=
  bif (((List.length x.1 : Nat) : Int) != ((List.length x.2 : Nat) : Int)) then some false else L_laws_eqByteS_4 (fun x1 => some x1) (fun x2 => some true) (x.1, x.2, (0 : Int))
noncomputable def f25B : Code := match Try.f25.body with
  | some c => c
  | none => .skip
noncomputable def f25K : C.Sem := tab []
def f25h4_0 : List Sh := [.v (.sl 5 ts_u8), .v (.sl 5 ts_u8), .dead, .dead, .dead, .v (.int .i64), .dead, .dead, .dead, .dead, .dead, .dead, .dead, .dead, .dead, .dead, .dead, .dead, .dead, .dead, .dead, .dead, .dead, .dead, .dead, .dead]
def f25o4_0 : List (Nat × OSh) := []
def f25e4_0 (t : List E_u8 × List E_u8 × Int) : St := mkS f25h4_0 f25o4_0 ((t.1, t.2.1, (), (), (), t.2.2, (), (), (), (), (), (), (), (), (), (), (), (), (), (), (), (), (), (), (), (), ()), ())
def f25g4_0 : List Sh := [.dead, .dead, .dead, .dead, .v .bool, .dead, .dead, .dead, .dead, .dead, .dead, .dead, .dead, .dead, .dead, .dead, .dead, .dead, .dead, .dead, .dead, .dead, .dead, .dead, .dead, .dead]
def f25p4_0 : List (Nat × OSh) := []
def f25x4_0 (t : Bool) : St := mkS f25g4_0 f25p4_0 (((), (), (), (), t, (), (), (), (), (), (), (), (), (), (), (), (), (), (), (), (), (), (), (), (), (), ()), ())
def f25g4_1 : List Sh := [.dead, .dead, .dead, .dead, .dead, .dead, .dead, .dead, .dead, .dead, .dead, .dead, .dead, .dead, .dead, .dead, .dead, .dead, .dead, .dead, .dead, .dead, .dead, .dead, .dead, .dead]
def f25p4_1 : List (Nat × OSh) := []
def f25x4_1 (t : Unit) : St := mkS f25g4_1 f25p4_1 (((), (), (), (), (), (), (), (), (), (), (), (), (), (), (), (), (), (), (), (), (), (), (), (), (), (), ()), ())
def f25u4_0 (s : St) : Option (List E_u8 × List E_u8 × Int) := (unS f25h4_0 f25o4_0 s).map fun v => (v.1.1, v.1.2.1, v.1.2.2.2.2.2.1)
theorem f25un4_0 : ∀ (s : St) (t : List E_u8 × List E_u8 × Int), f25u4_0 s = some t → f25e4_0 t = s := fun s v h => by
  obtain ⟨u, hu, rfl⟩ := Option.map_eq_some_iff.1 h
  exact mkS_un f25h4_0 f25o4_0 s u hu
def f25u4 : St → Option (List E_u8 × List E_u8 × Int) := f25u4_0
def f25e4 : (List E_u8 × List E_u8 × Int) → St := f25e4_0
theorem f25un4 : ∀ (s : St) (t : List E_u8 × List E_u8 × Int), f25u4 s = some t → f25e4 t = s := f25un4_0
noncomputable def f25P : Lp := fun i s {_R} κ => bif Nat.beq i 4 then (f25u4 s).bind fun t => L_laws_eqByteS_4 (fun t => κ (none) (f25x4_0 t)) (fun t => κ (some 0) (f25x4_1 t)) t else none
noncomputable def f25c4 : Code := (loopsOf f25B).getD 0 .skip
theorem f25A4 : C.live 25 (firstRegion f25c4) = some ([0, 1, 5], [4]) := by kernel_rfl
theorem f25B4 {R : Type} (κ : Option Nat → St → Option R) (s : St) : f25P (firstRegion f25c4) s κ = (f25u4 s).bind fun t => iter (S_laws_eqByteS_4 (fun t => κ (none) (f25x4_0 t)) (fun t => κ (some 0) (f25x4_1 t))) FUEL t := by kernel_rfl
theorem f25C4 {R : Type} (κ : Option Nat → St → Option R) (again : St → Option R) (t : T_laws_eqByteS_4) : stepL C f25K f25P 25 f25c4 [0, 1, 5] [4] κ again (f25e4 t) = S_laws_eqByteS_4 (fun t => κ (none) (f25x4_0 t)) (fun t => κ (some 0) (f25x4_1 t)) (fun t => again (f25e4 t)) t := by kernel_rfl
theorem f25ok4 : LoopOk C f25K f25P 25 f25c4 := loop_ok f25A4 f25e4 f25u4 f25un4 (fun {_R} κ => S_laws_eqByteS_4 (fun t => κ (none) (f25x4_0 t)) (fun t => κ (some 0) (f25x4_1 t))) (fun {_R} κ s => f25B4 κ s) (fun {_R} κ again t => f25C4 κ again t)
theorem k25 : Contract C Try.prog f25K := contract_tab _ (fun p hp => by cases hp)
theorem ev25 (x : List E_u8 × List E_u8) : evalB C f25K f25P 25 Try.f25 f25B ⟨[.v false [(.sl 5 ts_u8)] [false], .v false [(.sl 5 ts_u8)] [false]], [⟨false, [.bool], [false]⟩]⟩ [(.sl 5 ts_u8), (.sl 5 ts_u8)] [.bool] x = F_laws_eqByteS x := by kernel_rfl
theorem ok25 : ContractAt C Try.prog 25 F_laws_eqByteS := fn_sound (lp := f25P) tok mixed k25 (fn := Try.f25) (c := f25B) (sg := ⟨[.v false [(.sl 5 ts_u8)] [false], .v false [(.sl 5 ts_u8)] [false]], [⟨false, [.bool], [false]⟩]⟩) Try.func25 (by decide) (by kernel_rfl) (by kernel_rfl) (by kernel_rfl) (fun c' hc' => by
    rw [show loopsOf f25B = [f25c4] by kernel_rfl] at hc'
    simp only [List.mem_cons, List.mem_nil_iff, or_false] at hc'
    rcases hc' with rfl
    · exact f25ok4) (by decide) (by decide) (fun x y h => (ev25 x).trans h)

/-! ### 32: spec.l1In -/
noncomputable def F_spec_l1In (x : Int × Int × Int) : Option (Bool) :=
  Option.bind (bif (decide (x.1 ≥ x.2.1)) then some (decide (x.1 ≤ x.2.2)) else some false) fun u1 => some u1
noncomputable def f32B : Code := match Try.f32.body with
  | some c => c
  | none => .skip
noncomputable def f32K : C.Sem := tab []
noncomputable def f32P : Lp := fun i s {_R} κ => none
theorem k32 : Contract C Try.prog f32K := contract_tab _ (fun p hp => by cases hp)
theorem ev32 (x : Int × Int × Int) : evalB C f32K f32P 32 Try.f32 f32B ⟨[.v false [(.int .i64)] [false], .v false [(.int .i64)] [false], .v false [(.int .i64)] [false]], [⟨false, [.bool], [false]⟩]⟩ [(.int .i64), (.int .i64), (.int .i64)] [.bool] x = F_spec_l1In x := by kernel_rfl
theorem ok32 : ContractAt C Try.prog 32 F_spec_l1In := fn_sound (lp := f32P) tok mixed k32 (fn := Try.f32) (c := f32B) (sg := ⟨[.v false [(.int .i64)] [false], .v false [(.int .i64)] [false], .v false [(.int .i64)] [false]], [⟨false, [.bool], [false]⟩]⟩) Try.func32 (by decide) (by kernel_rfl) (by kernel_rfl) (by kernel_rfl) (fun c' hc' => by
    rw [show loopsOf f32B = [] by kernel_rfl] at hc'
    cases hc') (by decide) (by decide) (fun x y h => (ev32 x).trans h)

/-! ### 16: spec.SuperOk -/
noncomputable def F_spec_SuperOk (x : Int × Int × Int × Int × Int) : Option (Bool) :=
  Option.bind (F_spec_l1In (x.1, (1 : Int), (60000 : Int))) fun r1 => Option.bind (bif r1 then Option.bind (F_spec_l1In (x.2.1, (0 : Int), (1 : Int))) fun r3 => some r3 else some false) fun u2 => Option.bind (bif u2 then Option.bind (F_spec_l1In (x.2.2.1, (0 : Int), (1680 : Int))) fun r5 => some r5 else some false) fun u4 => Option.bind (bif u4 then Option.bind (F_spec_l1In (x.2.2.2.1, (0 : Int), (4294967295 : Int))) fun r7 => some r7 else some false) fun u6 => Option.bind (bif u6 then Option.bind (F_spec_l1In (x.2.2.2.2, (1 : Int), (60000 : Int))) fun r9 => some r9 else some false) fun u8 => some u8
noncomputable def f16B : Code := match Try.f16.body with
  | some c => c
  | none => .skip
noncomputable def f16K : C.Sem := tab [⟨32, F_spec_l1In⟩]
noncomputable def f16P : Lp := fun i s {_R} κ => none
theorem k16 : Contract C Try.prog f16K := contract_tab _ (fun p hp => by
    simp only [List.mem_cons, List.mem_nil_iff, or_false] at hp
    rcases hp with rfl
    · exact ok32)
theorem ev16 (x : Int × Int × Int × Int × Int) : evalB C f16K f16P 16 Try.f16 f16B ⟨[.v true [(.int .i64), (.int .i64), (.int .i64), (.int .i64), (.int .i64)] [false, false, false, false, false]], [⟨false, [.bool], [false]⟩]⟩ [(.int .i64), (.int .i64), (.int .i64), (.int .i64), (.int .i64)] [.bool] x = F_spec_SuperOk x := by kernel_rfl
theorem ok16 : ContractAt C Try.prog 16 F_spec_SuperOk := fn_sound (lp := f16P) tok mixed k16 (fn := Try.f16) (c := f16B) (sg := ⟨[.v true [(.int .i64), (.int .i64), (.int .i64), (.int .i64), (.int .i64)] [false, false, false, false, false]], [⟨false, [.bool], [false]⟩]⟩) Try.func16 (by decide) (by kernel_rfl) (by kernel_rfl) (by kernel_rfl) (fun c' hc' => by
    rw [show loopsOf f16B = [] by kernel_rfl] at hc'
    cases hc') (by decide) (by decide) (fun x y h => (ev16 x).trans h)

/-! ### 40: spec.Crc -/
abbrev T_spec_Crc_7 : Type := List E_u8 × Int × Int × Int
noncomputable def S_spec_Crc_7 {R : Type} (k0 : (List E_u8 × Int × Int) → Option R) (again : T_spec_Crc_7 → Option R) (t7 : T_spec_Crc_7) : Option R :=
  bif (decide (t7.2.2.2 < (8 : Int))) then bif ((Go.bits .and .i64 t7.2.1 (1 : Int)) == (1 : Int)) then again (t7.1, (Go.bits .xor .i64 (Int.fdiv t7.2.1 (2 ^ (min (Int.toNat (1 : Int)) (Go.IntKind.bits .i64)))) (2197175160 : Int)), t7.2.2.1, (Go.IntKind.wrap .i64 (t7.2.2.2 + (1 : Int)))) else again (t7.1, (Int.fdiv t7.2.1 (2 ^ (min (Int.toNat (1 : Int)) (Go.IntKind.bits .i64)))), t7.2.2.1, (Go.IntKind.wrap .i64 (t7.2.2.2 + (1 : Int)))) else k0 (t7.1, t7.2.1, t7.2.2.1)
noncomputable def L_spec_Crc_7 {R : Type} (k0 : (List E_u8 × Int × Int) → Option R) (t : T_spec_Crc_7) : Option R := iter (S_spec_Crc_7 k0) FUEL t
abbrev T_spec_Crc_3 : Type := List E_u8 × Int × Int
noncomputable def S_spec_Crc_3 {R : Type} (k0 : Int → Option R) (again : T_spec_Crc_3 → Option R) (t3 : T_spec_Crc_3) : Option R :=
  bif (decide (t3.2.2 < ((List.length t3.1 : Nat) : Int))) then if (0 : Int) ≤ t3.2.2 then if t3.2.2 < ((List.length t3.1 : Nat) : Int) then L_spec_Crc_7 (fun x1 => again (x1.1, x1.2.1, (Go.IntKind.wrap .i64 (x1.2.2 + (1 : Int))))) (t3.1, (Go.bits .xor .i64 t3.2.1 (Go.IntKind.wrap .i64 (rd_u8 t3.1 t3.2.2))), t3.2.2, (0 : Int)) else none else none else k0 t3.2.1
noncomputable def L_spec_Crc_3 {R : Type} (k0 : Int → Option R) (t : T_spec_Crc_3) : Option R := iter (S_spec_Crc_3 k0) FUEL t
noncomputable def F_spec_Crc (x : List E_u8) : Option (Int) :=
  L_spec_Crc_3 (fun x2 => some (Go.bits .xor .i64 x2 (4294967295 : Int))) (x, (4294967295 : Int), (0 : Int))
noncomputable def f40B : Code := match Try.f40.body with
  | some c => c
  | none => .skip
noncomputable def f40K : C.Sem := tab []
def f40h7_0 : List Sh := [.v (.sl 5 ts_u8), .dead, .dead, .v (.int .i64), .v (.int .i64), .v (.int .i64), .dead, .dead, .dead, .dead, .dead, .dead, .dead, .dead, .dead, .dead, .dead, .dead, .dead, .dead, .dead, .dead, .dead, .dead, .dead, .dead, .dead, .dead, .dead, .dead, .dead, .dead, .dead]
def f40o7_0 : List (Nat × OSh) := []
def f40e7_0 (t : List E_u8 × Int × Int × Int) : St := mkS f40h7_0 f40o7_0 ((t.1, (), (), t.2.1, t.2.2.1, t.2.2.2, (), (), (), (), (), (), (), (), (), (), (), (), (), (), (), (), (), (), (), (), (), (), (), (), (), (), (), ()), ())
def f40g7_0 : List Sh := [.v (.sl 5 ts_u8), .dead, .dead, .v (.int .i64), .v (.int .i64), .dead, .dead, .dead, .dead, .dead, .dead, .dead, .dead, .dead, .dead, .dead, .dead, .dead, .dead, .dead, .dead, .dead, .dead, .dead, .dead, .dead, .dead, .dead, .dead, .dead, .dead, .dead, .dead]
def f40p7_0 : List (Nat × OSh) := []
def f40x7_0 (t : List E_u8 × Int × Int) : St := mkS f40g7_0 f40p7_0 ((t.1, (), (), t.2.1, t.2.2, (), (), (), (), (), (), (), (), (), (), (), (), (), (), (), (), (), (), (), (), (), (), (), (), (), (), (), (), ()), ())
def f40u7_0 (s : St) : Option (List E_u8 × Int × Int × Int) := (unS f40h7_0 f40o7_0 s).map fun v => (v.1.1, v.1.2.2.2.1, v.1.2.2.2.2.1, v.1.2.2.2.2.2.1)
theorem f40un7_0 : ∀ (s : St) (t : List E_u8 × Int × Int × Int), f40u7_0 s = some t → f40e7_0 t = s := fun s v h => by
  obtain ⟨u, hu, rfl⟩ := Option.map_eq_some_iff.1 h
  exact mkS_un f40h7_0 f40o7_0 s u hu
def f40u7 : St → Option (List E_u8 × Int × Int × Int) := f40u7_0
def f40e7 : (List E_u8 × Int × Int × Int) → St := f40e7_0
theorem f40un7 : ∀ (s : St) (t : List E_u8 × Int × Int × Int), f40u7 s = some t → f40e7 t = s := f40un7_0
def f40h3_0 : List Sh := [.v (.sl 5 ts_u8), .dead, .dead, .v (.int .i64), .v (.int .i64), .dead, .dead, .dead, .dead, .dead, .dead, .dead, .dead, .dead, .dead, .dead, .dead, .dead, .dead, .dead, .dead, .dead, .dead, .dead, .dead, .dead, .dead, .dead, .dead, .dead, .dead, .dead, .dead]
def f40o3_0 : List (Nat × OSh) := []
def f40e3_0 (t : List E_u8 × Int × Int) : St := mkS f40h3_0 f40o3_0 ((t.1, (), (), t.2.1, t.2.2, (), (), (), (), (), (), (), (), (), (), (), (), (), (), (), (), (), (), (), (), (), (), (), (), (), (), (), (), ()), ())
def f40g3_0 : List Sh := [.dead, .dead, .dead, .v (.int .i64), .dead, .dead, .dead, .dead, .dead, .dead, .dead, .dead, .dead, .dead, .dead, .dead, .dead, .dead, .dead, .dead, .dead, .dead, .dead, .dead, .dead, .dead, .dead, .dead, .dead, .dead, .dead, .dead, .dead]
def f40p3_0 : List (Nat × OSh) := []
def f40x3_0 (t : Int) : St := mkS f40g3_0 f40p3_0 (((), (), (), t, (), (), (), (), (), (), (), (), (), (), (), (), (), (), (), (), (), (), (), (), (), (), (), (), (), (), (), (), (), ()), ())
def f40u3_0 (s : St) : Option (List E_u8 × Int × Int) := (unS f40h3_0 f40o3_0 s).map fun v => (v.1.1, v.1.2.2.2.1, v.1.2.2.2.2.1)
theorem f40un3_0 : ∀ (s : St) (t : List E_u8 × Int × Int), f40u3_0 s = some t → f40e3_0 t = s := fun s v h => by
  obtain ⟨u, hu, rfl⟩ := Option.map_eq_some_iff.1 h
  exact mkS_un f40h3_0 f40o3_0 s u hu
def f40u3 : St → Option (List E_u8 × Int × Int) := f40u3_0
def f40e3 : (List E_u8 × Int × Int) → St := f40e3_0
theorem f40un3 : ∀ (s : St) (t : List E_u8 × Int × Int), f40u3 s = some t → f40e3 t = s := f40un3_0
noncomputable def f40P : Lp := fun i s {_R} κ => bif Nat.beq i 3 then (f40u3 s).bind fun t => L_spec_Crc_3 (fun t => κ (some 0) (f40x3_0 t)) t else bif Nat.beq i 7 then (f40u7 s).bind fun t => L_spec_Crc_7 (fun t => κ (some 2) (f40x7_0 t)) t else none
noncomputable def f40c7 : Code := (loopsOf f40B).getD 1 .skip
theorem f40A7 : C.live 40 (firstRegion f40c7) = some ([0, 3, 4, 5], [0, 3, 4]) := by kernel_rfl
theorem f40B7 {R : Type} (κ : Option Nat → St → Option R) (s : St) : f40P (firstRegion f40c7) s κ = (f40u7 s).bind fun t => iter (S_spec_Crc_7 (fun t => κ (some 2) (f40x7_0 t))) FUEL t := by kernel_rfl
theorem f40C7 {R : Type} (κ : Option Nat → St → Option R) (again : St → Option R) (t : T_spec_Crc_7) : stepL C f40K f40P 40 f40c7 [0, 3, 4, 5] [0, 3, 4] κ again (f40e7 t) = S_spec_Crc_7 (fun t => κ (some 2) (f40x7_0 t)) (fun t => again (f40e7 t)) t := by kernel_rfl
theorem f40ok7 : LoopOk C f40K f40P 40 f40c7 := loop_ok f40A7 f40e7 f40u7 f40un7 (fun {_R} κ => S_spec_Crc_7 (fun t => κ (some 2) (f40x7_0 t))) (fun {_R} κ s => f40B7 κ s) (fun {_R} κ again t => f40C7 κ again t)
noncomputable def f40c3 : Code := (loopsOf f40B).getD 0 .skip
theorem f40A3 : C.live 40 (firstRegion f40c3) = some ([0, 3, 4], [3]) := by kernel_rfl
theorem f40B3 {R : Type} (κ : Option Nat → St → Option R) (s : St) : f40P (firstRegion f40c3) s κ = (f40u3 s).bind fun t => iter (S_spec_Crc_3 (fun t => κ (some 0) (f40x3_0 t))) FUEL t := by kernel_rfl
theorem f40C3 {R : Type} (κ : Option Nat → St → Option R) (again : St → Option R) (t : T_spec_Crc_3) : stepL C f40K f40P 40 f40c3 [0, 3, 4] [3] κ again (f40e3 t) = S_spec_Crc_3 (fun t => κ (some 0) (f40x3_0 t)) (fun t => again (f40e3 t)) t := by kernel_rfl
theorem f40ok3 : LoopOk C f40K f40P 40 f40c3 := loop_ok f40A3 f40e3 f40u3 f40un3 (fun {_R} κ => S_spec_Crc_3 (fun t => κ (some 0) (f40x3_0 t))) (fun {_R} κ s => f40B3 κ s) (fun {_R} κ again t => f40C3 κ again t)
theorem k40 : Contract C Try.prog f40K := contract_tab _ (fun p hp => by cases hp)
theorem ev40 (x : List E_u8) : evalB C f40K f40P 40 Try.f40 f40B ⟨[.v false [(.sl 5 ts_u8)] [false]], [⟨false, [(.int .i64)], [false]⟩]⟩ [(.sl 5 ts_u8)] [(.int .i64)] x = F_spec_Crc x := by kernel_rfl
theorem ok40 : ContractAt C Try.prog 40 F_spec_Crc := fn_sound (lp := f40P) tok mixed k40 (fn := Try.f40) (c := f40B) (sg := ⟨[.v false [(.sl 5 ts_u8)] [false]], [⟨false, [(.int .i64)], [false]⟩]⟩) Try.func40 (by decide) (by kernel_rfl) (by kernel_rfl) (by kernel_rfl) (fun c' hc' => by
    rw [show loopsOf f40B = [f40c3, f40c7] by kernel_rfl] at hc'
    simp only [List.mem_cons, List.mem_nil_iff, or_false] at hc'
    rcases hc' with rfl | rfl
    · exact f40ok3
    · exact f40ok7) (by decide) (by decide) (fun x y h => (ev40 x).trans h)

/-! ### 44: spec.l17Get -/
noncomputable def F_spec_l17Get (x : List E_u8 × Int) : Option (Int) :=
  if (0 : Int) ≤ x.2 then if x.2 < ((List.length x.1 : Nat) : Int) then if (0 : Int) ≤ (Go.IntKind.wrap .i64 (x.2 + (1 : Int))) then if (Go.IntKind.wrap .i64 (x.2 + (1 : Int))) < ((List.length x.1 : Nat) : Int) then if (0 : Int) ≤ (Go.IntKind.wrap .i64 (x.2 + (2 : Int))) then if (Go.IntKind.wrap .i64 (x.2 + (2 : Int))) < ((List.length x.1 : Nat) : Int) then if (0 : Int) ≤ (Go.IntKind.wrap .i64 (x.2 + (3 : Int))) then if (Go.IntKind.wrap .i64 (x.2 + (3 : Int))) < ((List.length x.1 : Nat) : Int) then some (Go.bits .or .i64 (Go.bits .or .i64 (Go.bits .or .i64 (Go.IntKind.wrap .i64 ((Go.IntKind.wrap .i64 (rd_u8 x.1 x.2)) * 2 ^ (min (Int.toNat (24 : Int)) (Go.IntKind.bits .i64)))) (Go.IntKind.wrap .i64 ((Go.IntKind.wrap .i64 (rd_u8 x.1 (Go.IntKind.wrap .i64 (x.2 + (1 : Int))))) * 2 ^ (min (Int.toNat (16 : Int)) (Go.IntKind.bits .i64))))) (Go.IntKind.wrap .i64 ((Go.IntKind.wrap .i64 (rd_u8 x.1 (Go.IntKind.wrap .i64 (x.2 + (2 : Int))))) * 2 ^ (min (Int.toNat (8 : Int)) (Go.IntKind.bits .i64))))) (Go.IntKind.wrap .i64 (rd_u8 x.1 (Go.IntKind.wrap .i64 (x.2 + (3 : Int)))))) else none else none else none else none else none else none else none else none
noncomputable def f44B : Code := match Try.f44.body with
  | some c => c
  | none => .skip
noncomputable def f44K : C.Sem := tab []
noncomputable def f44P : Lp := fun i s {_R} κ => none
theorem k44 : Contract C Try.prog f44K := contract_tab _ (fun p hp => by cases hp)
theorem ev44 (x : List E_u8 × Int) : evalB C f44K f44P 44 Try.f44 f44B ⟨[.v false [(.sl 5 ts_u8)] [false], .v false [(.int .i64)] [false]], [⟨false, [(.int .i64)], [false]⟩]⟩ [(.sl 5 ts_u8), (.int .i64)] [(.int .i64)] x = F_spec_l17Get x := by kernel_rfl
theorem ok44 : ContractAt C Try.prog 44 F_spec_l17Get := fn_sound (lp := f44P) tok mixed k44 (fn := Try.f44) (c := f44B) (sg := ⟨[.v false [(.sl 5 ts_u8)] [false], .v false [(.int .i64)] [false]], [⟨false, [(.int .i64)], [false]⟩]⟩) Try.func44 (by decide) (by kernel_rfl) (by kernel_rfl) (by kernel_rfl) (fun c' hc' => by
    rw [show loopsOf f44B = [] by kernel_rfl] at hc'
    cases hc') (by decide) (by decide) (fun x y h => (ev44 x).trans h)

/-! ### 45: spec.GetW -/
noncomputable def F_spec_GetW (x : List E_u8 × Int) : Option (Int × Int × Bool) :=
  Option.bind (F_spec_l1In (x.2, (0 : Int), (Go.IntKind.wrap .i64 (((List.length x.1 : Nat) : Int) - (2 : Int))))) fun r1 => bif (!r1) then some ((0 : Int), (0 : Int), false) else if (0 : Int) ≤ x.2 then if x.2 < ((List.length x.1 : Nat) : Int) then if (0 : Int) ≤ (Go.IntKind.wrap .i64 (x.2 + (1 : Int))) then if (Go.IntKind.wrap .i64 (x.2 + (1 : Int))) < ((List.length x.1 : Nat) : Int) then some ((Go.bits .or .i64 (Go.IntKind.wrap .i64 ((Go.IntKind.wrap .i64 (rd_u8 x.1 x.2)) * 2 ^ (min (Int.toNat (8 : Int)) (Go.IntKind.bits .i64)))) (Go.IntKind.wrap .i64 (rd_u8 x.1 (Go.IntKind.wrap .i64 (x.2 + (1 : Int)))))), (Go.IntKind.wrap .i64 (x.2 + (2 : Int))), true) else none else none else none else none
noncomputable def f45B : Code := match Try.f45.body with
  | some c => c
  | none => .skip
noncomputable def f45K : C.Sem := tab [⟨32, F_spec_l1In⟩]
noncomputable def f45P : Lp := fun i s {_R} κ => none
theorem k45 : Contract C Try.prog f45K := contract_tab _ (fun p hp => by
    simp only [List.mem_cons, List.mem_nil_iff, or_false] at hp
    rcases hp with rfl
    · exact ok32)
theorem ev45 (x : List E_u8 × Int) : evalB C f45K f45P 45 Try.f45 f45B ⟨[.v false [(.sl 5 ts_u8)] [false], .v false [(.int .i64)] [false]], [⟨false, [(.int .i64)], [false]⟩, ⟨false, [(.int .i64)], [false]⟩, ⟨false, [.bool], [false]⟩]⟩ [(.sl 5 ts_u8), (.int .i64)] [(.int .i64), (.int .i64), .bool] x = F_spec_GetW x := by kernel_rfl
theorem ok45 : ContractAt C Try.prog 45 F_spec_GetW := fn_sound (lp := f45P) tok mixed k45 (fn := Try.f45) (c := f45B) (sg := ⟨[.v false [(.sl 5 ts_u8)] [false], .v false [(.int .i64)] [false]], [⟨false, [(.int .i64)], [false]⟩, ⟨false, [(.int .i64)], [false]⟩, ⟨false, [.bool], [false]⟩]⟩) Try.func45 (by decide) (by kernel_rfl) (by kernel_rfl) (by kernel_rfl) (fun c' hc' => by
    rw [show loopsOf f45B = [] by kernel_rfl] at hc'
    cases hc') (by decide) (by decide) (fun x y h => (ev45 x).trans h)

/-! ### 28: spec.GetSuper -/
noncomputable def F_spec_GetSuper (x : List E_u8) : Option (Int × Int × Int × Int × Int × Bool) :=
  Option.bind (bif (((List.length x : Nat) : Int) != (15 : Int)) then some true else Option.bind (F_spec_l17Get (x, (11 : Int))) fun r2 => if (0 : Int) ≤ (0 : Int) then if (0 : Int) ≤ (11 : Int) then if (11 : Int) ≤ ((List.length x : Nat) : Int) then Option.bind (F_spec_Crc (List.drop (Int.toNat (0 : Int)) (List.take (Int.toNat (11 : Int)) x))) fun r3 => some (r2 != r3) else none else none else none) fun u1 => bif u1 then some ((0 : Int), (0 : Int), (0 : Int), (0 : Int), (0 : Int), false) else Option.bind (F_spec_GetW (x, (0 : Int))) fun r4 => Option.bind (F_spec_GetW (x, (3 : Int))) fun r5 => Option.bind (F_spec_GetW (x, (9 : Int))) fun r6 => if (0 : Int) ≤ (2 : Int) then if (2 : Int) < ((List.length x : Nat) : Int) then Option.bind (F_spec_l17Get (x, (5 : Int))) fun r7 => Option.bind (F_spec_SuperOk (r4.1, (Go.IntKind.wrap .i64 (rd_u8 x (2 : Int))), r5.1, r7, r6.1)) fun r8 => bif (!r8) then some ((0 : Int), (0 : Int), (0 : Int), (0 : Int), (0 : Int), false) else some (r4.1, (Go.IntKind.wrap .i64 (rd_u8 x (2 : Int))), r5.1, r7, r6.1, true) else none else none
noncomputable def f28B : Code := match Try.f28.body with
  | some c => c
  | none => .skip
noncomputable def f28K : C.Sem := tab [⟨16, F_spec_SuperOk⟩, ⟨40, F_spec_Crc⟩, ⟨44, F_spec_l17Get⟩, ⟨45, F_spec_GetW⟩]
noncomputable def f28P : Lp := fun i s {_R} κ => none
theorem k28 : Contract C Try.prog f28K := contract_tab _ (fun p hp => by
    simp only [List.mem_cons, List.mem_nil_iff, or_false] at hp
    rcases hp with rfl | rfl | rfl | rfl
    · exact ok16
    · exact ok40
    · exact ok44
    · exact ok45)
theorem ev28 (x : List E_u8) : evalB C f28K f28P 28 Try.f28 f28B ⟨[.v false [(.sl 5 ts_u8)] [false]], [⟨true, [(.int .i64), (.int .i64), (.int .i64), (.int .i64), (.int .i64)], [false, false, false, false, false]⟩, ⟨false, [.bool], [false]⟩]⟩ [(.sl 5 ts_u8)] [(.int .i64), (.int .i64), (.int .i64), (.int .i64), (.int .i64), .bool] x = F_spec_GetSuper x := by kernel_rfl
theorem ok28 : ContractAt C Try.prog 28 F_spec_GetSuper := fn_sound (lp := f28P) tok mixed k28 (fn := Try.f28) (c := f28B) (sg := ⟨[.v false [(.sl 5 ts_u8)] [false]], [⟨true, [(.int .i64), (.int .i64), (.int .i64), (.int .i64), (.int .i64)], [false, false, false, false, false]⟩, ⟨false, [.bool], [false]⟩]⟩) Try.func28 (by decide) (by kernel_rfl) (by kernel_rfl) (by kernel_rfl) (fun c' hc' => by
    rw [show loopsOf f28B = [] by kernel_rfl] at hc'
    cases hc') (by decide) (by decide) (fun x y h => (ev28 x).trans h)

/-! ### 29: laws.toByteS -/
abbrev T_laws_toByteS_3 : Type := List E_u8 × Int × List E_u8
noncomputable def S_laws_toByteS_3 {R : Type} (k0 : List E_u8 → Option R) (again : T_laws_toByteS_3 → Option R) (t3 : T_laws_toByteS_3) : Option R :=
  bif (decide (t3.2.1 < ((List.length t3.1 : Nat) : Int))) then if (0 : Int) ≤ t3.2.1 then if t3.2.1 < ((List.length t3.1 : Nat) : Int) then if (0 : Int) ≤ t3.2.1 then if t3.2.1 < ((List.length t3.2.2 : Nat) : Int) then again (t3.1, (Go.IntKind.wrap .i64 (t3.2.1 + (1 : Int))), (List.set t3.2.2 (Int.toNat t3.2.1) (rd_u8 t3.1 t3.2.1))) else none else none else none else none else k0 t3.2.2
noncomputable def L_laws_toByteS_3 {R : Type} (k0 : List E_u8 → Option R) (t : T_laws_toByteS_3) : Option R := iter (S_laws_toByteS_3 k0) FUEL t
noncomputable def F_laws_toByteS (x : List E_u8) : Option (List E_u8) :=
  if (0 : Int) ≤ ((List.length x : Nat) : Int) then if ((List.length x : Nat) : Int) ≤ ((List.length x : Nat) : Int) then if ((List.length x : Nat) : Int) * ((1 : Nat) : Int) ≤ 140737488351232 then L_laws_toByteS_3 (fun x1 => some x1) (x, (0 : Int), (List.replicate (Int.toNat ((List.length x : Nat) : Int)) z_u8)) else none else none else none
noncomputable def f29B : Code := match Try.f29.body with
  | some c => c
  | none => .skip
noncomputable def f29K : C.Sem := tab []
def f29h3_0 : List Sh := [.v (.sl 5 ts_u8), .dead, .dead, .own 10000000, .v (.int .i64), .dead, .dead, .dead, .dead, .dead, .dead, .dead, .dead, .dead, .dead, .dead, .dead, .dead, .dead, .dead, .dead, .dead]
def f29o3_0 : List (Nat × OSh) := [(10000000, .root true 5 ts_u8)]
def f29e3_0 (t : List E_u8 × Int × List E_u8) : St := mkS f29h3_0 f29o3_0 ((t.1, (), (), (), t.2.1, (), (), (), (), (), (), (), (), (), (), (), (), (), (), (), (), (), ()), (t.2.2, ()))
def f29g3_0 : List Sh := [.dead, .dead, .dead, .own 10000000, .dead, .dead, .dead, .dead, .dead, .dead, .dead, .dead, .dead, .dead, .dead, .dead, .dead, .dead, .dead, .dead, .dead, .dead]
def f29p3_0 : List (Nat × OSh) := [(10000000, .root true 5 ts_u8)]
def f29x3_0 (t : List E_u8) : St := mkS f29g3_0 f29p3_0 (((), (), (), (), (), (), (), (), (), (), (), (), (), (), (), (), (), (), (), (), (), (), ()), (t, ()))
def f29u3_0 (s : St) : Option (List E_u8 × Int × List E_u8) := (unS f29h3_0 f29o3_0 s).map fun v => (v.1.1, v.1.2.2.2.2.1, v.2.1)
theorem f29un3_0 : ∀ (s : St) (t : List E_u8 × Int × List E_u8), f29u3_0 s = some t → f29e3_0 t = s := fun s v h => by
  obtain ⟨u, hu, rfl⟩ := Option.map_eq_some_iff.1 h
  exact mkS_un f29h3_0 f29o3_0 s u hu
def f29u3 : St → Option (List E_u8 × Int × List E_u8) := f29u3_0
def f29e3 : (List E_u8 × Int × List E_u8) → St := f29e3_0
theorem f29un3 : ∀ (s : St) (t : List E_u8 × Int × List E_u8), f29u3 s = some t → f29e3 t = s := f29un3_0
noncomputable def f29P : Lp := fun i s {_R} κ => bif Nat.beq i 3 then (f29u3 s).bind fun t => L_laws_toByteS_3 (fun t => κ (some 0) (f29x3_0 t)) t else none
noncomputable def f29c3 : Code := (loopsOf f29B).getD 0 .skip
theorem f29A3 : C.live 29 (firstRegion f29c3) = some ([0, 3, 4], [3]) := by kernel_rfl
theorem f29B3 {R : Type} (κ : Option Nat → St → Option R) (s : St) : f29P (firstRegion f29c3) s κ = (f29u3 s).bind fun t => iter (S_laws_toByteS_3 (fun t => κ (some 0) (f29x3_0 t))) FUEL t := by kernel_rfl
theorem f29C3 {R : Type} (κ : Option Nat → St → Option R) (again : St → Option R) (t : T_laws_toByteS_3) : stepL C f29K f29P 29 f29c3 [0, 3, 4] [3] κ again (f29e3 t) = S_laws_toByteS_3 (fun t => κ (some 0) (f29x3_0 t)) (fun t => again (f29e3 t)) t := by kernel_rfl
theorem f29ok3 : LoopOk C f29K f29P 29 f29c3 := loop_ok f29A3 f29e3 f29u3 f29un3 (fun {_R} κ => S_laws_toByteS_3 (fun t => κ (some 0) (f29x3_0 t))) (fun {_R} κ s => f29B3 κ s) (fun {_R} κ again t => f29C3 κ again t)
theorem k29 : Contract C Try.prog f29K := contract_tab _ (fun p hp => by cases hp)
theorem ev29 (x : List E_u8) : evalB C f29K f29P 29 Try.f29 f29B ⟨[.v false [(.sl 5 ts_u8)] [false]], [⟨false, [(.sl 5 ts_u8)], [true]⟩]⟩ [(.sl 5 ts_u8)] [(.sl 5 ts_u8)] x = F_laws_toByteS x := by kernel_rfl
theorem ok29 : ContractAt C Try.prog 29 F_laws_toByteS := fn_sound (lp := f29P) tok mixed k29 (fn := Try.f29) (c := f29B) (sg := ⟨[.v false [(.sl 5 ts_u8)] [false]], [⟨false, [(.sl 5 ts_u8)], [true]⟩]⟩) Try.func29 (by decide) (by kernel_rfl) (by kernel_rfl) (by kernel_rfl) (fun c' hc' => by
    rw [show loopsOf f29B = [f29c3] by kernel_rfl] at hc'
    simp only [List.mem_cons, List.mem_nil_iff, or_false] at hc'
    rcases hc' with rfl
    · exact f29ok3) (by decide) (by decide) (fun x y h => (ev29 x).trans h)

/-! ### 33: impl.within -/
noncomputable def F_impl_within (x : Int × Int × Int) : Option (Bool) :=
  Option.bind (bif (decide (x.1 ≥ x.2.1)) then some (decide (x.1 ≤ x.2.2)) else some false) fun u1 => some u1
noncomputable def f33B : Code := match Try.f33.body with
  | some c => c
  | none => .skip
noncomputable def f33K : C.Sem := tab []
noncomputable def f33P : Lp := fun i s {_R} κ => none
theorem k33 : Contract C Try.prog f33K := contract_tab _ (fun p hp => by cases hp)
theorem ev33 (x : Int × Int × Int) : evalB C f33K f33P 33 Try.f33 f33B ⟨[.v false [(.int .i64)] [false], .v false [(.int .i64)] [false], .v false [(.int .i64)] [false]], [⟨false, [.bool], [false]⟩]⟩ [(.int .i64), (.int .i64), (.int .i64)] [.bool] x = F_impl_within x := by kernel_rfl
theorem ok33 : ContractAt C Try.prog 33 F_impl_within := fn_sound (lp := f33P) tok mixed k33 (fn := Try.f33) (c := f33B) (sg := ⟨[.v false [(.int .i64)] [false], .v false [(.int .i64)] [false], .v false [(.int .i64)] [false]], [⟨false, [.bool], [false]⟩]⟩) Try.func33 (by decide) (by kernel_rfl) (by kernel_rfl) (by kernel_rfl) (fun c' hc' => by
    rw [show loopsOf f33B = [] by kernel_rfl] at hc'
    cases hc') (by decide) (by decide) (fun x y h => (ev33 x).trans h)

/-! ### 18: impl.SuperOk -/
noncomputable def F_impl_SuperOk (x : Int × Int × Int × Int × Int) : Option (Bool) :=
  Option.bind (F_impl_within (x.1, (1 : Int), (60000 : Int))) fun r1 => Option.bind (bif r1 then Option.bind (F_impl_within (x.2.1, (0 : Int), (1 : Int))) fun r3 => some r3 else some false) fun u2 => Option.bind (bif u2 then Option.bind (F_impl_within (x.2.2.1, (0 : Int), (1680 : Int))) fun r5 => some r5 else some false) fun u4 => Option.bind (bif u4 then Option.bind (F_impl_within (x.2.2.2.1, (0 : Int), (4294967295 : Int))) fun r7 => some r7 else some false) fun u6 => Option.bind (bif u6 then Option.bind (F_impl_within (x.2.2.2.2, (1 : Int), (60000 : Int))) fun r9 => some r9 else some false) fun u8 => some u8
noncomputable def f18B : Code := match Try.f18.body with
  | some c => c
  | none => .skip
noncomputable def f18K : C.Sem := tab [⟨33, F_impl_within⟩]
noncomputable def f18P : Lp := fun i s {_R} κ => none
theorem k18 : Contract C Try.prog f18K := contract_tab _ (fun p hp => by
    simp only [List.mem_cons, List.mem_nil_iff, or_false] at hp
    rcases hp with rfl
    · exact ok33)
theorem ev18 (x : Int × Int × Int × Int × Int) : evalB C f18K f18P 18 Try.f18 f18B ⟨[.v true [(.int .i64), (.int .i64), (.int .i64), (.int .i64), (.int .i64)] [false, false, false, false, false]], [⟨false, [.bool], [false]⟩]⟩ [(.int .i64), (.int .i64), (.int .i64), (.int .i64), (.int .i64)] [.bool] x = F_impl_SuperOk x := by kernel_rfl
theorem ok18 : ContractAt C Try.prog 18 F_impl_SuperOk := fn_sound (lp := f18P) tok mixed k18 (fn := Try.f18) (c := f18B) (sg := ⟨[.v true [(.int .i64), (.int .i64), (.int .i64), (.int .i64), (.int .i64)] [false, false, false, false, false]], [⟨false, [.bool], [false]⟩]⟩) Try.func18 (by decide) (by kernel_rfl) (by kernel_rfl) (by kernel_rfl) (fun c' hc' => by
    rw [show loopsOf f18B = [] by kernel_rfl] at hc'
    cases hc') (by decide) (by decide) (fun x y h => (ev18 x).trans h)

/-! ### 43: impl.Crc -/
abbrev T_impl_Crc_7 : Type := Int × List E_u8 × Int × Int × Int
noncomputable def S_impl_Crc_7 {R : Type} (k0 : (Int × List E_u8 × Int × Int) → Option R) (again : T_impl_Crc_7 → Option R) (t7 : T_impl_Crc_7) : Option R :=
  bif (decide (t7.2.2.2.2 < (8 : Int))) then bif ((Int.tmod t7.1 (2 : Int)) == (1 : Int)) then again ((Go.bits .xor .i64 (Go.IntKind.wrap .i64 (Int.tdiv t7.1 (2 : Int))) (2197175160 : Int)), t7.2.1, t7.2.2.1, t7.2.2.2.1, (Go.IntKind.wrap .i64 (t7.2.2.2.2 + (1 : Int)))) else again ((Go.IntKind.wrap .i64 (Int.tdiv t7.1 (2 : Int))), t7.2.1, t7.2.2.1, t7.2.2.2.1, (Go.IntKind.wrap .i64 (t7.2.2.2.2 + (1 : Int)))) else k0 (t7.1, t7.2.1, t7.2.2.1, t7.2.2.2.1)
noncomputable def L_impl_Crc_7 {R : Type} (k0 : (Int × List E_u8 × Int × Int) → Option R) (t : T_impl_Crc_7) : Option R := iter (S_impl_Crc_7 k0) FUEL t
abbrev T_impl_Crc_3 : Type := Int × List E_u8 × Int × Int
noncomputable def S_impl_Crc_3 {R : Type} (k0 : Int → Option R) (again : T_impl_Crc_3 → Option R) (t3 : T_impl_Crc_3) : Option R :=
  bif (decide (t3.2.2.2 < t3.2.2.1)) then if (0 : Int) ≤ t3.2.2.2 then if t3.2.2.2 < ((List.length t3.2.1 : Nat) : Int) then L_impl_Crc_7 (fun x1 => again (x1.1, x1.2.1, x1.2.2.1, (Go.IntKind.wrap .i64 (x1.2.2.2 + (1 : Int))))) ((Go.bits .xor .i64 t3.1 (Go.IntKind.wrap .i64 (rd_u8 t3.2.1 t3.2.2.2))), t3.2.1, t3.2.2.1, t3.2.2.2, (0 : Int)) else none else none else k0 t3.1
noncomputable def L_impl_Crc_3 {R : Type} (k0 : Int → Option R) (t : T_impl_Crc_3) : Option R := iter (S_impl_Crc_3 k0) FUEL t
noncomputable def F_impl_Crc (x : List E_u8) : Option (Int) :=
  L_impl_Crc_3 (fun x2 => some (Go.bits .xor .i64 x2 (4294967295 : Int))) ((4294967295 : Int), x, ((List.length x : Nat) : Int), (0 : Int))
noncomputable def f43B : Code := match Try.f43.body with
  | some c => c
  | none => .skip
noncomputable def f43K : C.Sem := tab []
def f43h7_0 : List Sh := [.dead, .dead, .dead, .v (.int .i64), .dead, .dead, .dead, .v (.sl 5 ts_u8), .v (.int .i64), .v (.int .i64), .dead, .dead, .dead, .dead, .dead, .dead, .dead, .v (.int .i64), .dead, .dead, .dead, .dead, .dead, .dead, .dead, .dead, .dead, .dead, .dead, .dead, .dead]
def f43o7_0 : List (Nat × OSh) := []
def f43e7_0 (t : Int × List E_u8 × Int × Int × Int) : St := mkS f43h7_0 f43o7_0 (((), (), (), t.1, (), (), (), t.2.1, t.2.2.1, t.2.2.2.1, (), (), (), (), (), (), (), t.2.2.2.2, (), (), (), (), (), (), (), (), (), (), (), (), (), ()), ())
def f43g7_0 : List Sh := [.dead, .dead, .dead, .v (.int .i64), .dead, .dead, .dead, .v (.sl 5 ts_u8), .v (.int .i64), .v (.int .i64), .dead, .dead, .dead, .dead, .dead, .dead, .dead, .dead, .dead, .dead, .dead, .dead, .dead, .dead, .dead, .dead, .dead, .dead, .dead, .dead, .dead]
def f43p7_0 : List (Nat × OSh) := []
def f43x7_0 (t : Int × List E_u8 × Int × Int) : St := mkS f43g7_0 f43p7_0 (((), (), (), t.1, (), (), (), t.2.1, t.2.2.1, t.2.2.2, (), (), (), (), (), (), (), (), (), (), (), (), (), (), (), (), (), (), (), (), (), ()), ())
def f43u7_0 (s : St) : Option (Int × List E_u8 × Int × Int × Int) := (unS f43h7_0 f43o7_0 s).map fun v => (v.1.2.2.2.1, v.1.2.2.2.2.2.2.2.1, v.1.2.2.2.2.2.2.2.2.1, v.1.2.2.2.2.2.2.2.2.2.1, v.1.2.2.2.2.2.2.2.2.2.2.2.2.2.2.2.2.2.1)
theorem f43un7_0 : ∀ (s : St) (t : Int × List E_u8 × Int × Int × Int), f43u7_0 s = some t → f43e7_0 t = s := fun s v h => by
  obtain ⟨u, hu, rfl⟩ := Option.map_eq_some_iff.1 h
  exact mkS_un f43h7_0 f43o7_0 s u hu
def f43u7 : St → Option (Int × List E_u8 × Int × Int × Int) := f43u7_0
def f43e7 : (Int × List E_u8 × Int × Int × Int) → St := f43e7_0
theorem f43un7 : ∀ (s : St) (t : Int × List E_u8 × Int × Int × Int), f43u7 s = some t → f43e7 t = s := f43un7_0
def f43h3_0 : List Sh := [.dead, .dead, .dead, .v (.int .i64), .dead, .dead, .dead, .v (.sl 5 ts_u8), .v (.int .i64), .v (.int .i64), .dead, .dead, .dead, .dead, .dead, .dead, .dead, .dead, .dead, .dead, .dead, .dead, .dead, .dead, .dead, .dead, .dead, .dead, .dead, .dead, .dead]
def f43o3_0 : List (Nat × OSh) := []
def f43e3_0 (t : Int × List E_u8 × Int × Int) : St := mkS f43h3_0 f43o3_0 (((), (), (), t.1, (), (), (), t.2.1, t.2.2.1, t.2.2.2, (), (), (), (), (), (), (), (), (), (), (), (), (), (), (), (), (), (), (), (), (), ()), ())
def f43g3_0 : List Sh := [.dead, .dead, .dead, .v (.int .i64), .dead, .dead, .dead, .dead, .dead, .dead, .dead, .dead, .dead, .dead, .dead, .dead, .dead, .dead, .dead, .dead, .dead, .dead, .dead, .dead, .dead, .dead, .dead, .dead, .dead, .dead, .dead]
def f43p3_0 : List (Nat × OSh) := []
def f43x3_0 (t : Int) : St := mkS f43g3_0 f43p3_0 (((), (), (), t, (), (), (), (), (), (), (), (), (), (), (), (), (), (), (), (), (), (), (), (), (), (), (), (), (), (), (), ()), ())
def f43u3_0 (s : St) : Option (Int × List E_u8 × Int × Int) := (unS f43h3_0 f43o3_0 s).map fun v => (v.1.2.2.2.1, v.1.2.2.2.2.2.2.2.1, v.1.2.2.2.2.2.2.2.2.1, v.1.2.2.2.2.2.2.2.2.2.1)
theorem f43un3_0 : ∀ (s : St) (t : Int × List E_u8 × Int × Int), f43u3_0 s = some t → f43e3_0 t = s := fun s v h => by
  obtain ⟨u, hu, rfl⟩ := Option.map_eq_some_iff.1 h
  exact mkS_un f43h3_0 f43o3_0 s u hu
def f43u3 : St → Option (Int × List E_u8 × Int × Int) := f43u3_0
def f43e3 : (Int × List E_u8 × Int × Int) → St := f43e3_0
theorem f43un3 : ∀ (s : St) (t : Int × List E_u8 × Int × Int), f43u3 s = some t → f43e3 t = s := f43un3_0
noncomputable def f43P : Lp := fun i s {_R} κ => bif Nat.beq i 3 then (f43u3 s).bind fun t => L_impl_Crc_3 (fun t => κ (some 0) (f43x3_0 t)) t else bif Nat.beq i 7 then (f43u7 s).bind fun t => L_impl_Crc_7 (fun t => κ (some 2) (f43x7_0 t)) t else none
noncomputable def f43c7 : Code := (loopsOf f43B).getD 1 .skip
theorem f43A7 : C.live 43 (firstRegion f43c7) = some ([3, 7, 8, 9, 17], [3, 7, 8, 9]) := by kernel_rfl
theorem f43B7 {R : Type} (κ : Option Nat → St → Option R) (s : St) : f43P (firstRegion f43c7) s κ = (f43u7 s).bind fun t => iter (S_impl_Crc_7 (fun t => κ (some 2) (f43x7_0 t))) FUEL t := by kernel_rfl
theorem f43C7 {R : Type} (κ : Option Nat → St → Option R) (again : St → Option R) (t : T_impl_Crc_7) : stepL C f43K f43P 43 f43c7 [3, 7, 8, 9, 17] [3, 7, 8, 9] κ again (f43e7 t) = S_impl_Crc_7 (fun t => κ (some 2) (f43x7_0 t)) (fun t => again (f43e7 t)) t := by kernel_rfl
theorem f43ok7 : LoopOk C f43K f43P 43 f43c7 := loop_ok f43A7 f43e7 f43u7 f43un7 (fun {_R} κ => S_impl_Crc_7 (fun t => κ (some 2) (f43x7_0 t))) (fun {_R} κ s => f43B7 κ s) (fun {_R} κ again t => f43C7 κ again t)
noncomputable def f43c3 : Code := (loopsOf f43B).getD 0 .skip
theorem f43A3 : C.live 43 (firstRegion f43c3) = some ([3, 7, 8, 9], [3]) := by kernel_rfl
theorem f43B3 {R : Type} (κ : Option Nat → St → Option R) (s : St) : f43P (firstRegion f43c3) s κ = (f43u3 s).bind fun t => iter (S_impl_Crc_3 (fun t => κ (some 0) (f43x3_0 t))) FUEL t := by kernel_rfl
theorem f43C3 {R : Type} (κ : Option Nat → St → Option R) (again : St → Option R) (t : T_impl_Crc_3) : stepL C f43K f43P 43 f43c3 [3, 7, 8, 9] [3] κ again (f43e3 t) = S_impl_Crc_3 (fun t => κ (some 0) (f43x3_0 t)) (fun t => again (f43e3 t)) t := by kernel_rfl
theorem f43ok3 : LoopOk C f43K f43P 43 f43c3 := loop_ok f43A3 f43e3 f43u3 f43un3 (fun {_R} κ => S_impl_Crc_3 (fun t => κ (some 0) (f43x3_0 t))) (fun {_R} κ s => f43B3 κ s) (fun {_R} κ again t => f43C3 κ again t)
theorem k43 : Contract C Try.prog f43K := contract_tab _ (fun p hp => by cases hp)
theorem ev43 (x : List E_u8) : evalB C f43K f43P 43 Try.f43 f43B ⟨[.v false [(.sl 5 ts_u8)] [false]], [⟨false, [(.int .i64)], [false]⟩]⟩ [(.sl 5 ts_u8)] [(.int .i64)] x = F_impl_Crc x := by kernel_rfl
theorem ok43 : ContractAt C Try.prog 43 F_impl_Crc := fn_sound (lp := f43P) tok mixed k43 (fn := Try.f43) (c := f43B) (sg := ⟨[.v false [(.sl 5 ts_u8)] [false]], [⟨false, [(.int .i64)], [false]⟩]⟩) Try.func43 (by decide) (by kernel_rfl) (by kernel_rfl) (by kernel_rfl) (fun c' hc' => by
    rw [show loopsOf f43B = [f43c3, f43c7] by kernel_rfl] at hc'
    simp only [List.mem_cons, List.mem_nil_iff, or_false] at hc'
    rcases hc' with rfl | rfl
    · exact f43ok3
    · exact f43ok7) (by decide) (by decide) (fun x y h => (ev43 x).trans h)

/-! ### 56: impl.GetW -/
noncomputable def F_impl_GetW (x : List E_u8 × Int) : Option (Int × Int × Bool) :=
  Option.bind (bif (decide (x.2 < (0 : Int))) then some true else some (decide (x.2 > (Go.IntKind.wrap .i64 (((List.length x.1 : Nat) : Int) - (2 : Int)))))) fun u1 => bif u1 then some ((0 : Int), (0 : Int), false) else if (0 : Int) ≤ x.2 then if x.2 < ((List.length x.1 : Nat) : Int) then if (0 : Int) ≤ (Go.IntKind.wrap .i64 (x.2 + (1 : Int))) then if (Go.IntKind.wrap .i64 (x.2 + (1 : Int))) < ((List.length x.1 : Nat) : Int) then some ((Go.bits .or .i64 (Go.IntKind.wrap .i64 ((Go.IntKind.wrap .i64 (rd_u8 x.1 x.2)) * 2 ^ (min (Int.toNat (8 : Int)) (Go.IntKind.bits .i64)))) (Go.IntKind.wrap .i64 (rd_u8 x.1 (Go.IntKind.wrap .i64 (x.2 + (1 : Int)))))), (Go.IntKind.wrap .i64 (x.2 + (2 : Int))), true) else none else none else none else none
noncomputable def f56B : Code := match Try.f56.body with
  | some c => c
  | none => .skip
noncomputable def f56K : C.Sem := tab []
noncomputable def f56P : Lp := fun i s {_R} κ => none
theorem k56 : Contract C Try.prog f56K := contract_tab _ (fun p hp => by cases hp)
theorem ev56 (x : List E_u8 × Int) : evalB C f56K f56P 56 Try.f56 f56B ⟨[.v false [(.sl 5 ts_u8)] [false], .v false [(.int .i64)] [false]], [⟨false, [(.int .i64)], [false]⟩, ⟨false, [(.int .i64)], [false]⟩, ⟨false, [.bool], [false]⟩]⟩ [(.sl 5 ts_u8), (.int .i64)] [(.int .i64), (.int .i64), .bool] x = F_impl_GetW x := by kernel_rfl
theorem ok56 : ContractAt C Try.prog 56 F_impl_GetW := fn_sound (lp := f56P) tok mixed k56 (fn := Try.f56) (c := f56B) (sg := ⟨[.v false [(.sl 5 ts_u8)] [false], .v false [(.int .i64)] [false]], [⟨false, [(.int .i64)], [false]⟩, ⟨false, [(.int .i64)], [false]⟩, ⟨false, [.bool], [false]⟩]⟩) Try.func56 (by decide) (by kernel_rfl) (by kernel_rfl) (by kernel_rfl) (fun c' hc' => by
    rw [show loopsOf f56B = [] by kernel_rfl] at hc'
    cases hc') (by decide) (by decide) (fun x y h => (ev56 x).trans h)

/-! ### 46: impl.reader).word -/
noncomputable def F_impl_reader_word (x : List E_u8 × Int × Bool) : Option (Int × List E_u8 × Int × Bool) :=
  Option.bind (F_impl_GetW (x.1, x.2.1)) fun r1 => Option.bind (bif x.2.2 then some true else some (!r1.2.2)) fun u2 => bif u2 then some ((0 : Int), x.1, x.2.1, true) else some (r1.1, x.1, r1.2.1, x.2.2)
noncomputable def f46B : Code := match Try.f46.body with
  | some c => c
  | none => .skip
noncomputable def f46K : C.Sem := tab [⟨56, F_impl_GetW⟩]
noncomputable def f46P : Lp := fun i s {_R} κ => none
theorem k46 : Contract C Try.prog f46K := contract_tab _ (fun p hp => by
    simp only [List.mem_cons, List.mem_nil_iff, or_false] at hp
    rcases hp with rfl
    · exact ok56)
theorem ev46 (x : List E_u8 × Int × Bool) : evalB C f46K f46P 46 Try.f46 f46B ⟨[.p [(.sl 5 ts_u8), (.int .i64), .bool] [false, false, false]], [⟨false, [(.int .i64)], [false]⟩]⟩ [(.sl 5 ts_u8), (.int .i64), .bool] [(.int .i64), (.sl 5 ts_u8), (.int .i64), .bool] x = F_impl_reader_word x := by kernel_rfl
theorem ok46 : ContractAt C Try.prog 46 F_impl_reader_word := fn_sound (lp := f46P) tok mixed k46 (fn := Try.f46) (c := f46B) (sg := ⟨[.p [(.sl 5 ts_u8), (.int .i64), .bool] [false, false, false]], [⟨false, [(.int .i64)], [false]⟩]⟩) Try.func46 (by decide) (by kernel_rfl) (by kernel_rfl) (by kernel_rfl) (fun c' hc' => by
    rw [show loopsOf f46B = [] by kernel_rfl] at hc'
    cases hc') (by decide) (by decide) (fun x y h => (ev46 x).trans h)

/-! ### 47: impl.reader).one -/
noncomputable def F_impl_reader_one (x : List E_u8 × Int × Bool) : Option (Int × List E_u8 × Int × Bool) :=
  Option.bind (bif x.2.2 then some true else some (decide (x.2.1 < (0 : Int)))) fun u1 => Option.bind (bif u1 then some true else some (decide (x.2.1 ≥ ((List.length x.1 : Nat) : Int)))) fun u2 => bif u2 then some ((0 : Int), x.1, x.2.1, true) else if (0 : Int) ≤ (Go.IntKind.wrap .i64 ((Go.IntKind.wrap .i64 (x.2.1 + (1 : Int))) - (1 : Int))) then if (Go.IntKind.wrap .i64 ((Go.IntKind.wrap .i64 (x.2.1 + (1 : Int))) - (1 : Int))) < ((List.length x.1 : Nat) : Int) then some ((Go.IntKind.wrap .i64 (rd_u8 x.1 (Go.IntKind.wrap .i64 ((Go.IntKind.wrap .i64 (x.2.1 + (1 : Int))) - (1 : Int))))), x.1, (Go.IntKind.wrap .i64 (x.2.1 + (1 : Int))), x.2.2) else none else none
noncomputable def f47B : Code := match Try.f47.body with
  | some c => c
  | none => .skip
noncomputable def f47K : C.Sem := tab []
noncomputable def f47P : Lp := fun i s {_R} κ => none
theorem k47 : Contract C Try.prog f47K := contract_tab _ (fun p hp => by cases hp)
theorem ev47 (x : List E_u8 × Int × Bool) : evalB C f47K f47P 47 Try.f47 f47B ⟨[.p [(.sl 5 ts_u8), (.int .i64), .bool] [false, false, false]], [⟨false, [(.int .i64)], [false]⟩]⟩ [(.sl 5 ts_u8), (.int .i64), .bool] [(.int .i64), (.sl 5 ts_u8), (.int .i64), .bool] x = F_impl_reader_one x := by kernel_rfl
theorem ok47 : ContractAt C Try.prog 47 F_impl_reader_one := fn_sound (lp := f47P) tok mixed k47 (fn := Try.f47) (c := f47B) (sg := ⟨[.p [(.sl 5 ts_u8), (.int .i64), .bool] [false, false, false]], [⟨false, [(.int .i64)], [false]⟩]⟩) Try.func47 (by decide) (by kernel_rfl) (by kernel_rfl) (by kernel_rfl) (fun c' hc' => by
    rw [show loopsOf f47B = [] by kernel_rfl] at hc'
    cases hc') (by decide) (by decide) (fun x y h => (ev47 x).trans h)

/-! ### 48: impl.reader).four -/
noncomputable def F_impl_reader_four (x : List E_u8 × Int × Bool) : Option (Int × List E_u8 × Int × Bool) :=
  Option.bind (F_impl_reader_word (x.1, x.2.1, x.2.2)) fun r1 => Option.bind (F_impl_reader_word (r1.2.1, r1.2.2.1, r1.2.2.2)) fun r2 => some ((Go.bits .or .i64 (Go.IntKind.wrap .i64 (r1.1 * 2 ^ (min (Int.toNat (16 : Int)) (Go.IntKind.bits .i64)))) r2.1), r2.2.1, r2.2.2.1, r2.2.2.2)
noncomputable def f48B : Code := match Try.f48.body with
  | some c => c
  | none => .skip
noncomputable def f48K : C.Sem := tab [⟨46, F_impl_reader_word⟩]
noncomputable def f48P : Lp := fun i s {_R} κ => none
theorem k48 : Contract C Try.prog f48K := contract_tab _ (fun p hp => by
    simp only [List.mem_cons, List.mem_nil_iff, or_false] at hp
    rcases hp with rfl
    · exact ok46)
theorem ev48 (x : List E_u8 × Int × Bool) : evalB C f48K f48P 48 Try.f48 f48B ⟨[.p [(.sl 5 ts_u8), (.int .i64), .bool] [false, false, false]], [⟨false, [(.int .i64)], [false]⟩]⟩ [(.sl 5 ts_u8), (.int .i64), .bool] [(.int .i64), (.sl 5 ts_u8), (.int .i64), .bool] x = F_impl_reader_four x := by kernel_rfl
theorem ok48 : ContractAt C Try.prog 48 F_impl_reader_four := fn_sound (lp := f48P) tok mixed k48 (fn := Try.f48) (c := f48B) (sg := ⟨[.p [(.sl 5 ts_u8), (.int .i64), .bool] [false, false, false]], [⟨false, [(.int .i64)], [false]⟩]⟩) Try.func48 (by decide) (by kernel_rfl) (by kernel_rfl) (by kernel_rfl) (fun c' hc' => by
    rw [show loopsOf f48B = [] by kernel_rfl] at hc'
    cases hc') (by decide) (by decide) (fun x y h => (ev48 x).trans h)

/-! ### 49: impl.reader).done -/
noncomputable def F_impl_reader_done (x : List E_u8 × Int × Bool) : Option (Bool × List E_u8 × Int × Bool) :=
  Option.bind (bif (!x.2.2) then some (x.2.1 == ((List.length x.1 : Nat) : Int)) else some false) fun u1 => some (u1, x.1, x.2.1, x.2.2)
noncomputable def f49B : Code := match Try.f49.body with
  | some c => c
  | none => .skip
noncomputable def f49K : C.Sem := tab []
noncomputable def f49P : Lp := fun i s {_R} κ => none
theorem k49 : Contract C Try.prog f49K := contract_tab _ (fun p hp => by cases hp)
theorem ev49 (x : List E_u8 × Int × Bool) : evalB C f49K f49P 49 Try.f49 f49B ⟨[.p [(.sl 5 ts_u8), (.int .i64), .bool] [false, false, false]], [⟨false, [.bool], [false]⟩]⟩ [(.sl 5 ts_u8), (.int .i64), .bool] [.bool, (.sl 5 ts_u8), (.int .i64), .bool] x = F_impl_reader_done x := by kernel_rfl
theorem ok49 : ContractAt C Try.prog 49 F_impl_reader_done := fn_sound (lp := f49P) tok mixed k49 (fn := Try.f49) (c := f49B) (sg := ⟨[.p [(.sl 5 ts_u8), (.int .i64), .bool] [false, false, false]], [⟨false, [.bool], [false]⟩]⟩) Try.func49 (by decide) (by kernel_rfl) (by kernel_rfl) (by kernel_rfl) (fun c' hc' => by
    rw [show loopsOf f49B = [] by kernel_rfl] at hc'
    cases hc') (by decide) (by decide) (fun x y h => (ev49 x).trans h)

/-! ### 30: impl.GetSuper -/
noncomputable def F_impl_GetSuper (x : List E_u8) : Option (Int × Int × Int × Int × Int × Bool) :=
  Option.bind (F_impl_reader_word (x, (0 : Int), false)) fun r1 => Option.bind (F_impl_reader_one (r1.2.1, r1.2.2.1, r1.2.2.2)) fun r2 => Option.bind (F_impl_reader_word (r2.2.1, r2.2.2.1, r2.2.2.2)) fun r3 => Option.bind (F_impl_reader_four (r3.2.1, r3.2.2.1, r3.2.2.2)) fun r4 => Option.bind (F_impl_reader_word (r4.2.1, r4.2.2.1, r4.2.2.2)) fun r5 => Option.bind (F_impl_reader_four (r5.2.1, r5.2.2.1, r5.2.2.2)) fun r6 => Option.bind (F_impl_reader_done (r6.2.1, r6.2.2.1, r6.2.2.2)) fun r7 => Option.bind (bif (!r7.1) then some true else Option.bind (F_impl_SuperOk (r1.1, r2.1, r3.1, r4.1, r5.1)) fun r9 => some (!r9)) fun u8 => Option.bind (bif u8 then some true else if (0 : Int) ≤ (0 : Int) then if (0 : Int) ≤ r5.2.2.1 then if r5.2.2.1 ≤ ((List.length x : Nat) : Int) then Option.bind (F_impl_Crc (List.drop (Int.toNat (0 : Int)) (List.take (Int.toNat r5.2.2.1) x))) fun r11 => some (r6.1 != r11) else none else none else none) fun u10 => bif u10 then some ((0 : Int), (0 : Int), (0 : Int), (0 : Int), (0 : Int), false) else some (r1.1, r2.1, r3.1, r4.1, r5.1, true)
noncomputable def f30B : Code := match Try.f30.body with
  | some c => c
  | none => .skip
noncomputable def f30K : C.Sem := tab [⟨18, F_impl_SuperOk⟩, ⟨43, F_impl_Crc⟩, ⟨46, F_impl_reader_word⟩, ⟨47, F_impl_reader_one⟩, ⟨48, F_impl_reader_four⟩, ⟨49, F_impl_reader_done⟩]
noncomputable def f30P : Lp := fun i s {_R} κ => none
theorem k30 : Contract C Try.prog f30K := contract_tab _ (fun p hp => by
    simp only [List.mem_cons, List.mem_nil_iff, or_false] at hp
    rcases hp with rfl | rfl | rfl | rfl | rfl | rfl
    · exact ok18
    · exact ok43
    · exact ok46
    · exact ok47
    · exact ok48
    · exact ok49)
theorem ev30 (x : List E_u8) : evalB C f30K f30P 30 Try.f30 f30B ⟨[.v false [(.sl 5 ts_u8)] [false]], [⟨true, [(.int .i64), (.int .i64), (.int .i64), (.int .i64), (.int .i64)], [false, false, false, false, false]⟩, ⟨false, [.bool], [false]⟩]⟩ [(.sl 5 ts_u8)] [(.int .i64), (.int .i64), (.int .i64), (.int .i64), (.int .i64), .bool] x = F_impl_GetSuper x := by kernel_rfl
theorem ok30 : ContractAt C Try.prog 30 F_impl_GetSuper := fn_sound (lp := f30P) tok mixed k30 (fn := Try.f30) (c := f30B) (sg := ⟨[.v false [(.sl 5 ts_u8)] [false]], [⟨true, [(.int .i64), (.int .i64), (.int .i64), (.int .i64), (.int .i64)], [false, false, false, false, false]⟩, ⟨false, [.bool], [false]⟩]⟩) Try.func30 (by decide) (by kernel_rfl) (by kernel_rfl) (by kernel_rfl) (fun c' hc' => by
    rw [show loopsOf f30B = [] by kernel_rfl] at hc'
    cases hc') (by decide) (by decide) (fun x y h => (ev30 x).trans h)

/-! ### 31: laws.eqSuper -/
noncomputable def F_laws_eqSuper (x : Int × Int × Int × Int × Int × Int × Int × Int × Int × Int) : Option (Bool) :=
  bif (x.1 != x.2.2.2.2.2.1) then some false else bif (x.2.1 != x.2.2.2.2.2.2.1) then some false else bif (x.2.2.1 != x.2.2.2.2.2.2.2.1) then some false else bif (x.2.2.2.1 != x.2.2.2.2.2.2.2.2.1) then some false else bif (x.2.2.2.2.1 != x.2.2.2.2.2.2.2.2.2) then some false else some true
noncomputable def f31B : Code := match Try.f31.body with
  | some c => c
  | none => .skip
noncomputable def f31K : C.Sem := tab []
noncomputable def f31P : Lp := fun i s {_R} κ => none
theorem k31 : Contract C Try.prog f31K := contract_tab _ (fun p hp => by cases hp)
theorem ev31 (x : Int × Int × Int × Int × Int × Int × Int × Int × Int × Int) : evalB C f31K f31P 31 Try.f31 f31B ⟨[.v true [(.int .i64), (.int .i64), (.int .i64), (.int .i64), (.int .i64)] [false, false, false, false, false], .v true [(.int .i64), (.int .i64), (.int .i64), (.int .i64), (.int .i64)] [false, false, false, false, false]], [⟨false, [.bool], [false]⟩]⟩ [(.int .i64), (.int .i64), (.int .i64), (.int .i64), (.int .i64), (.int .i64), (.int .i64), (.int .i64), (.int .i64), (.int .i64)] [.bool] x = F_laws_eqSuper x := by kernel_rfl
theorem ok31 : ContractAt C Try.prog 31 F_laws_eqSuper := fn_sound (lp := f31P) tok mixed k31 (fn := Try.f31) (c := f31B) (sg := ⟨[.v true [(.int .i64), (.int .i64), (.int .i64), (.int .i64), (.int .i64)] [false, false, false, false, false], .v true [(.int .i64), (.int .i64), (.int .i64), (.int .i64), (.int .i64)] [false, false, false, false, false]], [⟨false, [.bool], [false]⟩]⟩) Try.func31 (by decide) (by kernel_rfl) (by kernel_rfl) (by kernel_rfl) (fun c' hc' => by
    rw [show loopsOf f31B = [] by kernel_rfl] at hc'
    cases hc') (by decide) (by decide) (fun x y h => (ev31 x).trans h)

/-! ### 9: laws.FnExactGetSuper -/
noncomputable def F_laws_FnExactGetSuper (x : List E_u8) : Option (Bool) :=
  bif (decide (((List.length x : Nat) : Int) > (1048576 : Int))) then some true else Option.bind (F_laws_toByteS x) fun r1 => Option.bind (F_spec_GetSuper r1) fun r2 => Option.bind (F_laws_toByteS x) fun r3 => Option.bind (F_impl_GetSuper r3) fun r4 => Option.bind (F_laws_eqSuper (r4.1, r4.2.1, r4.2.2.1, r4.2.2.2.1, r4.2.2.2.2.1, r2.1, r2.2.1, r2.2.2.1, r2.2.2.2.1, r2.2.2.2.2.1)) fun r5 => Option.bind (bif (!r5) then some true else some (!(r4.2.2.2.2.2 == r2.2.2.2.2.2))) fun u6 => bif u6 then some false else Option.bind (F_laws_toByteS x) fun r7 => Option.bind (F_laws_eqByteS (r3, r7)) fun r8 => bif (!r8) then some false else some true
noncomputable def f9B : Code := match Try.f9.body with
  | some c => c
  | none => .skip
noncomputable def f9K : C.Sem := tab [⟨25, F_laws_eqByteS⟩, ⟨28, F_spec_GetSuper⟩, ⟨29, F_laws_toByteS⟩, ⟨30, F_impl_GetSuper⟩, ⟨31, F_laws_eqSuper⟩]
noncomputable def f9P : Lp := fun i s {_R} κ => none
theorem k9 : Contract C Try.prog f9K := contract_tab _ (fun p hp => by
    simp only [List.mem_cons, List.mem_nil_iff, or_false] at hp
    rcases hp with rfl | rfl | rfl | rfl | rfl
    · exact ok25
    · exact ok28
    · exact ok29
    · exact ok30
    · exact ok31)
theorem ev9 (x : List E_u8) : evalB C f9K f9P 9 Try.f9 f9B ⟨[.v false [(.sl 5 ts_u8)] [false]], [⟨false, [.bool], [false]⟩]⟩ [(.sl 5 ts_u8)] [.bool] x = F_laws_FnExactGetSuper x := by kernel_rfl
theorem ok9 : ContractAt C Try.prog 9 F_laws_FnExactGetSuper := fn_sound (lp := f9P) tok mixed k9 (fn := Try.f9) (c := f9B) (sg := ⟨[.v false [(.sl 5 ts_u8)] [false]], [⟨false, [.bool], [false]⟩]⟩) Try.func9 (by decide) (by kernel_rfl) (by kernel_rfl) (by kernel_rfl) (fun c' hc' => by
    rw [show loopsOf f9B = [] by kernel_rfl] at hc'
    cases hc') (by decide) (by decide) (fun x y h => (ev9 x).trans h)
end Go.Proofs.Ytcabfgbcjiaenaa.XS
