/- What functions compute, and that they do; part 0 of T; by a program (dec.py). No condition. -/
import Derived.Test.YtmanmgafjbnakaaXT
namespace Go.Proofs.Ytmanmgafjbnakaa.XT
open Go.Proofs.Ytmanmgafjbnakaa.R
set_option linter.unusedVariables false
set_option maxRecDepth 100000

/-! ### 15: laws.eqByteS -/
abbrev T_laws_eqByteS_4 : Type := List E_u8 × List E_u8 × Int
noncomputable def S_laws_eqByteS_4 {R : Type} (k0 : Bool → Option R) (k1 : Unit → Option R) (again : T_laws_eqByteS_4 → Option R) (t4 : T_laws_eqByteS_4) : Option R :=
  bif (decide (t4.2.2 < ((List.length t4.1 : Nat) : Int))) then if (0 : Int) ≤ t4.2.2 then if t4.2.2 < ((List.length t4.1 : Nat) : Int) then if (0 : Int) ≤ t4.2.2 then if t4.2.2 < ((List.length t4.2.1 : Nat) : Int) then bif ((rd_u8 t4.1 t4.2.2) != (rd_u8 t4.2.1 t4.2.2)) then k0 false else again (t4.1, t4.2.1, (Go.IntKind.wrap .i64 (t4.2.2 + (1 : Int)))) else none else none else none else none else k1 ()
noncomputable def L_laws_eqByteS_4 {R : Type} (k0 : Bool → Option R) (k1 : Unit → Option R) (t : T_laws_eqByteS_4) : Option R := iter (S_laws_eqByteS_4 k0 k1) FUEL t
noncomputable def F_laws_eqByteS (x : List E_u8 × List E_u8) : Option (Bool) :=
  bif (((List.length x.1 : Nat) : Int) != ((List.length x.2 : Nat) : Int)) then some false else L_laws_eqByteS_4 (fun x1 => some x1) (fun x2 => some true) (x.1, x.2, (0 : Int))
noncomputable def f15B : Code := match Try.f15.body with
  | some c => c
  | none => .skip
noncomputable def f15K : C.Sem := tab []
def f15h4_0 : List Sh := [.v (.sl 5 ts_u8), .v (.sl 5 ts_u8), .dead, .dead, .dead, .v (.int .i64), .dead, .dead, .dead, .dead, .dead, .dead, .dead, .dead, .dead, .dead, .dead, .dead, .dead, .dead, .dead, .dead, .dead, .dead, .dead, .dead]
def f15o4_0 : List (Nat × OSh) := []
def f15e4_0 (t : List E_u8 × List E_u8 × Int) : St := mkS f15h4_0 f15o4_0 ((t.1, t.2.1, (), (), (), t.2.2, (), (), (), (), (), (), (), (), (), (), (), (), (), (), (), (), (), (), (), (), ()), ())
def f15g4_0 : List Sh := [.dead, .dead, .dead, .dead, .v .bool, .dead, .dead, .dead, .dead, .dead, .dead, .dead, .dead, .dead, .dead, .dead, .dead, .dead, .dead, .dead, .dead, .dead, .dead, .dead, .dead, .dead]
def f15p4_0 : List (Nat × OSh) := []
def f15x4_0 (t : Bool) : St := mkS f15g4_0 f15p4_0 (((), (), (), (), t, (), (), (), (), (), (), (), (), (), (), (), (), (), (), (), (), (), (), (), (), (), ()), ())
def f15g4_1 : List Sh := [.dead, .dead, .dead, .dead, .dead, .dead, .dead, .dead, .dead, .dead, .dead, .dead, .dead, .dead, .dead, .dead, .dead, .dead, .dead, .dead, .dead, .dead, .dead, .dead, .dead, .dead]
def f15p4_1 : List (Nat × OSh) := []
def f15x4_1 (t : Unit) : St := mkS f15g4_1 f15p4_1 (((), (), (), (), (), (), (), (), (), (), (), (), (), (), (), (), (), (), (), (), (), (), (), (), (), (), ()), ())
def f15u4_0 (s : St) : Option (List E_u8 × List E_u8 × Int) := (unS f15h4_0 f15o4_0 s).map fun v => (v.1.1, v.1.2.1, v.1.2.2.2.2.2.1)
theorem f15un4_0 : ∀ (s : St) (t : List E_u8 × List E_u8 × Int), f15u4_0 s = some t → f15e4_0 t = s := fun s v h => by
  obtain ⟨u, hu, rfl⟩ := Option.map_eq_some_iff.1 h
  exact mkS_un f15h4_0 f15o4_0 s u hu
def f15u4 : St → Option (List E_u8 × List E_u8 × Int) := f15u4_0
def f15e4 : (List E_u8 × List E_u8 × Int) → St := f15e4_0
theorem f15un4 : ∀ (s : St) (t : List E_u8 × List E_u8 × Int), f15u4 s = some t → f15e4 t = s := f15un4_0
noncomputable def f15P : Lp := fun i s {_R} κ => bif Nat.beq i 4 then (f15u4 s).bind fun t => L_laws_eqByteS_4 (fun t => κ (none) (f15x4_0 t)) (fun t => κ (some 0) (f15x4_1 t)) t else none
noncomputable def f15c4 : Code := (loopsOf f15B).getD 0 .skip
theorem f15A4 : C.live 15 (firstRegion f15c4) = some ([0, 1, 5], [4]) := by kernel_rfl
theorem f15B4 {R : Type} (κ : Option Nat → St → Option R) (s : St) : f15P (firstRegion f15c4) s κ = (f15u4 s).bind fun t => iter (S_laws_eqByteS_4 (fun t => κ (none) (f15x4_0 t)) (fun t => κ (some 0) (f15x4_1 t))) FUEL t := by kernel_rfl
theorem f15C4 {R : Type} (κ : Option Nat → St → Option R) (again : St → Option R) (t : T_laws_eqByteS_4) : stepL C f15K f15P 15 f15c4 [0, 1, 5] [4] κ again (f15e4 t) = S_laws_eqByteS_4 (fun t => κ (none) (f15x4_0 t)) (fun t => κ (some 0) (f15x4_1 t)) (fun t => again (f15e4 t)) t := by kernel_rfl
theorem f15ok4 : LoopOk C f15K f15P 15 f15c4 := loop_ok f15A4 f15e4 f15u4 f15un4 (fun {_R} κ => S_laws_eqByteS_4 (fun t => κ (none) (f15x4_0 t)) (fun t => κ (some 0) (f15x4_1 t))) (fun {_R} κ s => f15B4 κ s) (fun {_R} κ again t => f15C4 κ again t)
theorem k15 : Contract C Try.prog f15K := contract_tab _ (fun p hp => by cases hp)
theorem ev15 (x : List E_u8 × List E_u8) : evalB C f15K f15P 15 Try.f15 f15B ⟨[.v false [(.sl 5 ts_u8)] [false], .v false [(.sl 5 ts_u8)] [false]], [⟨false, [.bool], [false]⟩]⟩ [(.sl 5 ts_u8), (.sl 5 ts_u8)] [.bool] x = F_laws_eqByteS x := by kernel_rfl
theorem ok15 : ContractAt C Try.prog 15 F_laws_eqByteS := fn_sound (lp := f15P) tok mixed k15 (fn := Try.f15) (c := f15B) (sg := ⟨[.v false [(.sl 5 ts_u8)] [false], .v false [(.sl 5 ts_u8)] [false]], [⟨false, [.bool], [false]⟩]⟩) Try.func15 (by decide) (by kernel_rfl) (by kernel_rfl) (by kernel_rfl) (fun c' hc' => by
    rw [show loopsOf f15B = [f15c4] by kernel_rfl] at hc'
    simp only [List.mem_cons, List.mem_nil_iff, or_false] at hc'
    rcases hc' with rfl
    · exact f15ok4) (by decide) (by decide) (fun x y h => (ev15 x).trans h)

/-! ### 86: spec.l1In -/
noncomputable def F_spec_l1In (x : Int × Int × Int) : Option (Bool) :=
  Option.bind (bif (decide (x.1 ≥ x.2.1)) then some (decide (x.1 ≤ x.2.2)) else some false) fun u1 => some u1
noncomputable def f86B : Code := match Try.f86.body with
  | some c => c
  | none => .skip
noncomputable def f86K : C.Sem := tab []
noncomputable def f86P : Lp := fun i s {_R} κ => none
theorem k86 : Contract C Try.prog f86K := contract_tab _ (fun p hp => by cases hp)
theorem ev86 (x : Int × Int × Int) : evalB C f86K f86P 86 Try.f86 f86B ⟨[.v false [(.int .i64)] [false], .v false [(.int .i64)] [false], .v false [(.int .i64)] [false]], [⟨false, [.bool], [false]⟩]⟩ [(.int .i64), (.int .i64), (.int .i64)] [.bool] x = F_spec_l1In x := by kernel_rfl
theorem ok86 : ContractAt C Try.prog 86 F_spec_l1In := fn_sound (lp := f86P) tok mixed k86 (fn := Try.f86) (c := f86B) (sg := ⟨[.v false [(.int .i64)] [false], .v false [(.int .i64)] [false], .v false [(.int .i64)] [false]], [⟨false, [.bool], [false]⟩]⟩) Try.func86 (by decide) (by kernel_rfl) (by kernel_rfl) (by kernel_rfl) (fun c' hc' => by
    rw [show loopsOf f86B = [] by kernel_rfl] at hc'
    cases hc') (by decide) (by decide) (fun x y h => (ev86 x).trans h)

/-! ### 144: spec.NameOk -/
abbrev T_spec_NameOk_2 : Type := ByteArray × Int
noncomputable def S_spec_NameOk_2 {R : Type} (k0 : (ByteArray × Bool) → Option R) (k1 : ByteArray → Option R) (again : T_spec_NameOk_2 → Option R) (t2 : T_spec_NameOk_2) : Option R :=
  bif (decide (t2.2 < ((ByteArray.size t2.1 : Nat) : Int))) then if (0 : Int) ≤ t2.2 then if h1 : Int.toNat t2.2 < ByteArray.size t2.1 then Option.bind (F_spec_l1In ((Go.IntKind.wrap .i64 ((UInt8.toNat (ByteArray.get t2.1 (Int.toNat t2.2) h1) : Nat) : Int)), (97 : Int), (122 : Int))) fun r2 => Option.bind (bif (!r2) then if (0 : Int) ≤ t2.2 then if h4 : Int.toNat t2.2 < ByteArray.size t2.1 then Option.bind (F_spec_l1In ((Go.IntKind.wrap .i64 ((UInt8.toNat (ByteArray.get t2.1 (Int.toNat t2.2) h4) : Nat) : Int)), (48 : Int), (57 : Int))) fun r5 => some (!r5) else none else none else some false) fun u3 => bif u3 then k0 (t2.1, false) else again (t2.1, (Go.IntKind.wrap .i64 (t2.2 + (1 : Int)))) else none else none else k1 t2.1
noncomputable def L_spec_NameOk_2 {R : Type} (k0 : (ByteArray × Bool) → Option R) (k1 : ByteArray → Option R) (t : T_spec_NameOk_2) : Option R := iter (S_spec_NameOk_2 k0 k1) FUEL t
noncomputable def F_spec_NameOk (x : ByteArray) : Option (Bool) :=
  L_spec_NameOk_2 (fun x6 => some x6.2) (fun x7 => Option.bind (F_spec_l1In (((ByteArray.size x7 : Nat) : Int), (1 : Int), (6 : Int))) fun r8 => some r8) (x, (0 : Int))
noncomputable def f144B : Code := match Try.f144.body with
  | some c => c
  | none => .skip
noncomputable def f144K : C.Sem := tab [⟨86, F_spec_l1In⟩]
def f144h2_0 : List Sh := [.v .str, .dead, .dead, .v (.int .i64), .dead, .dead, .dead, .dead, .dead, .dead, .dead, .dead, .dead, .dead, .dead, .dead, .dead, .dead, .dead, .dead, .dead, .dead, .dead, .dead, .dead, .dead, .dead]
def f144o2_0 : List (Nat × OSh) := []
def f144e2_0 (t : ByteArray × Int) : St := mkS f144h2_0 f144o2_0 ((t.1, (), (), t.2, (), (), (), (), (), (), (), (), (), (), (), (), (), (), (), (), (), (), (), (), (), (), (), ()), ())
def f144g2_0 : List Sh := [.v .str, .dead, .v .bool, .dead, .dead, .dead, .dead, .dead, .dead, .dead, .dead, .dead, .dead, .dead, .dead, .dead, .dead, .dead, .dead, .dead, .dead, .dead, .dead, .dead, .dead, .dead, .dead]
def f144p2_0 : List (Nat × OSh) := []
def f144x2_0 (t : ByteArray × Bool) : St := mkS f144g2_0 f144p2_0 ((t.1, (), t.2, (), (), (), (), (), (), (), (), (), (), (), (), (), (), (), (), (), (), (), (), (), (), (), (), ()), ())
def f144g2_1 : List Sh := [.v .str, .dead, .dead, .dead, .dead, .dead, .dead, .dead, .dead, .dead, .dead, .dead, .dead, .dead, .dead, .dead, .dead, .dead, .dead, .dead, .dead, .dead, .dead, .dead, .dead, .dead, .dead]
def f144p2_1 : List (Nat × OSh) := []
def f144x2_1 (t : ByteArray) : St := mkS f144g2_1 f144p2_1 ((t, (), (), (), (), (), (), (), (), (), (), (), (), (), (), (), (), (), (), (), (), (), (), (), (), (), (), ()), ())
def f144u2_0 (s : St) : Option (ByteArray × Int) := (unS f144h2_0 f144o2_0 s).map fun v => (v.1.1, v.1.2.2.2.1)
theorem f144un2_0 : ∀ (s : St) (t : ByteArray × Int), f144u2_0 s = some t → f144e2_0 t = s := fun s v h => by
  obtain ⟨u, hu, rfl⟩ := Option.map_eq_some_iff.1 h
  exact mkS_un f144h2_0 f144o2_0 s u hu
def f144u2 : St → Option (ByteArray × Int) := f144u2_0
def f144e2 : (ByteArray × Int) → St := f144e2_0
theorem f144un2 : ∀ (s : St) (t : ByteArray × Int), f144u2 s = some t → f144e2 t = s := f144un2_0
noncomputable def f144P : Lp := fun i s {_R} κ => bif Nat.beq i 2 then (f144u2 s).bind fun t => L_spec_NameOk_2 (fun t => κ (none) (f144x2_0 t)) (fun t => κ (some 0) (f144x2_1 t)) t else none
noncomputable def f144c2 : Code := (loopsOf f144B).getD 0 .skip
theorem f144A2 : C.live 144 (firstRegion f144c2) = some ([0, 3, 17, 18, 19, 20, 21, 22], [0, 2]) := by kernel_rfl
theorem f144B2 {R : Type} (κ : Option Nat → St → Option R) (s : St) : f144P (firstRegion f144c2) s κ = (f144u2 s).bind fun t => iter (S_spec_NameOk_2 (fun t => κ (none) (f144x2_0 t)) (fun t => κ (some 0) (f144x2_1 t))) FUEL t := by kernel_rfl
theorem f144C2 {R : Type} (κ : Option Nat → St → Option R) (again : St → Option R) (t : T_spec_NameOk_2) : stepL C f144K f144P 144 f144c2 [0, 3, 17, 18, 19, 20, 21, 22] [0, 2] κ again (f144e2 t) = S_spec_NameOk_2 (fun t => κ (none) (f144x2_0 t)) (fun t => κ (some 0) (f144x2_1 t)) (fun t => again (f144e2 t)) t := by kernel_rfl
theorem f144ok2 : LoopOk C f144K f144P 144 f144c2 := loop_ok f144A2 f144e2 f144u2 f144un2 (fun {_R} κ => S_spec_NameOk_2 (fun t => κ (none) (f144x2_0 t)) (fun t => κ (some 0) (f144x2_1 t))) (fun {_R} κ s => f144B2 κ s) (fun {_R} κ again t => f144C2 κ again t)
theorem k144 : Contract C Try.prog f144K := contract_tab _ (fun p hp => by
    simp only [List.mem_cons, List.mem_nil_iff, or_false] at hp
    rcases hp with rfl
    · exact ok86)
theorem ev144 (x : ByteArray) : evalB C f144K f144P 144 Try.f144 f144B ⟨[.v false [.str] [false]], [⟨false, [.bool], [false]⟩]⟩ [.str] [.bool] x = F_spec_NameOk x := by kernel_rfl
theorem ok144 : ContractAt C Try.prog 144 F_spec_NameOk := fn_sound (lp := f144P) tok mixed k144 (fn := Try.f144) (c := f144B) (sg := ⟨[.v false [.str] [false]], [⟨false, [.bool], [false]⟩]⟩) Try.func144 (by decide) (by kernel_rfl) (by kernel_rfl) (by kernel_rfl) (fun c' hc' => by
    rw [show loopsOf f144B = [f144c2] by kernel_rfl] at hc'
    simp only [List.mem_cons, List.mem_nil_iff, or_false] at hc'
    rcases hc' with rfl
    · exact f144ok2) (by decide) (by decide) (fun x y h => (ev144 x).trans h)

/-! ### 145: spec.l1Word -/
noncomputable def F_spec_l1Word (x : Int) : Option (Bool) :=
  Option.bind (F_spec_l1In (x, (0 : Int), (65535 : Int))) fun r1 => some r1
noncomputable def f145B : Code := match Try.f145.body with
  | some c => c
  | none => .skip
noncomputable def f145K : C.Sem := tab [⟨86, F_spec_l1In⟩]
noncomputable def f145P : Lp := fun i s {_R} κ => none
theorem k145 : Contract C Try.prog f145K := contract_tab _ (fun p hp => by
    simp only [List.mem_cons, List.mem_nil_iff, or_false] at hp
    rcases hp with rfl
    · exact ok86)
theorem ev145 (x : Int) : evalB C f145K f145P 145 Try.f145 f145B ⟨[.v false [(.int .i64)] [false]], [⟨false, [.bool], [false]⟩]⟩ [(.int .i64)] [.bool] x = F_spec_l1Word x := by kernel_rfl
theorem ok145 : ContractAt C Try.prog 145 F_spec_l1Word := fn_sound (lp := f145P) tok mixed k145 (fn := Try.f145) (c := f145B) (sg := ⟨[.v false [(.int .i64)] [false]], [⟨false, [.bool], [false]⟩]⟩) Try.func145 (by decide) (by kernel_rfl) (by kernel_rfl) (by kernel_rfl) (fun c' hc' => by
    rw [show loopsOf f145B = [] by kernel_rfl] at hc'
    cases hc') (by decide) (by decide) (fun x y h => (ev145 x).trans h)

/-! ### 146: spec.l15Zero -/
noncomputable def F_spec_l15Zero (x : Int × ByteArray × ByteArray × Int × Int) : Option (Bool) :=
  bif (x.1 == (2 : Int)) then Option.bind (bif (x.2.2.2.1 == (0 : Int)) then Option.bind (F_spec_l1In (x.2.2.2.2, (0 : Int), (1 : Int))) fun r2 => some r2 else some false) fun u1 => some u1 else bif (x.1 == (3 : Int)) then bif (x.1 == (3 : Int)) then Option.bind (bif (x.2.2.2.1 == (0 : Int)) then some (x.2.2.2.2 == (0 : Int)) else some false) fun u3 => some u3 else bif (x.1 == (4 : Int)) then some true else some (x.2.2.2.2 == (0 : Int)) else bif (x.1 == (7 : Int)) then Option.bind (bif (x.2.2.2.1 == (0 : Int)) then some (x.2.2.2.2 == (0 : Int)) else some false) fun u4 => some u4 else bif (x.1 == (4 : Int)) then some true else some (x.2.2.2.2 == (0 : Int))
noncomputable def f146B : Code := match Try.f146.body with
  | some c => c
  | none => .skip
noncomputable def f146K : C.Sem := tab [⟨86, F_spec_l1In⟩]
noncomputable def f146P : Lp := fun i s {_R} κ => none
theorem k146 : Contract C Try.prog f146K := contract_tab _ (fun p hp => by
    simp only [List.mem_cons, List.mem_nil_iff, or_false] at hp
    rcases hp with rfl
    · exact ok86)
theorem ev146 (x : Int × ByteArray × ByteArray × Int × Int) : evalB C f146K f146P 146 Try.f146 f146B ⟨[.v true [(.int .i64), .str, .str, (.int .i64), (.int .i64)] [false, false, false, false, false]], [⟨false, [.bool], [false]⟩]⟩ [(.int .i64), .str, .str, (.int .i64), (.int .i64)] [.bool] x = F_spec_l15Zero x := by kernel_rfl
theorem ok146 : ContractAt C Try.prog 146 F_spec_l15Zero := fn_sound (lp := f146P) tok mixed k146 (fn := Try.f146) (c := f146B) (sg := ⟨[.v true [(.int .i64), .str, .str, (.int .i64), (.int .i64)] [false, false, false, false, false]], [⟨false, [.bool], [false]⟩]⟩) Try.func146 (by decide) (by kernel_rfl) (by kernel_rfl) (by kernel_rfl) (fun c' hc' => by
    rw [show loopsOf f146B = [] by kernel_rfl] at hc'
    cases hc') (by decide) (by decide) (fun x y h => (ev146 x).trans h)

/-! ### 110: spec.OpOk -/
noncomputable def F_spec_OpOk (x : Int × ByteArray × ByteArray × Int × Int) : Option (Bool) :=
  Option.bind (F_spec_NameOk x.2.1) fun r1 => bif (decide (x.1 ≥ (7 : Int))) then bif (x.1 == (2 : Int)) then Option.bind (F_spec_NameOk x.2.2.1) fun r2 => Option.bind (F_spec_l1In (x.1, (1 : Int), (9 : Int))) fun r3 => Option.bind (bif r3 then some ((ByteArray.toList x.2.1) == (ByteArray.toList ({ data := #[] }))) else some false) fun u4 => Option.bind (bif u4 then some r2 else some false) fun u5 => Option.bind (bif u5 then Option.bind (F_spec_l1Word x.2.2.2.1) fun r7 => some r7 else some false) fun u6 => Option.bind (bif u6 then Option.bind (F_spec_l1Word x.2.2.2.2) fun r9 => some r9 else some false) fun u8 => Option.bind (bif u8 then Option.bind (F_spec_l15Zero (x.1, x.2.1, x.2.2.1, x.2.2.2.1, x.2.2.2.2)) fun r11 => some r11 else some false) fun u10 => some u10 else Option.bind (F_spec_l1In (x.1, (1 : Int), (9 : Int))) fun r12 => Option.bind (bif r12 then some ((ByteArray.toList x.2.1) == (ByteArray.toList ({ data := #[] }))) else some false) fun u13 => Option.bind (bif u13 then some ((ByteArray.toList x.2.2.1) == (ByteArray.toList ({ data := #[] }))) else some false) fun u14 => Option.bind (bif u14 then Option.bind (F_spec_l1Word x.2.2.2.1) fun r16 => some r16 else some false) fun u15 => Option.bind (bif u15 then Option.bind (F_spec_l1Word x.2.2.2.2) fun r18 => some r18 else some false) fun u17 => Option.bind (bif u17 then Option.bind (F_spec_l15Zero (x.1, x.2.1, x.2.2.1, x.2.2.2.1, x.2.2.2.2)) fun r20 => some r20 else some false) fun u19 => some u19 else bif (x.1 == (2 : Int)) then Option.bind (F_spec_NameOk x.2.2.1) fun r21 => Option.bind (F_spec_l1In (x.1, (1 : Int), (9 : Int))) fun r22 => Option.bind (bif r22 then some r1 else some false) fun u23 => Option.bind (bif u23 then some r21 else some false) fun u24 => Option.bind (bif u24 then Option.bind (F_spec_l1Word x.2.2.2.1) fun r26 => some r26 else some false) fun u25 => Option.bind (bif u25 then Option.bind (F_spec_l1Word x.2.2.2.2) fun r28 => some r28 else some false) fun u27 => Option.bind (bif u27 then Option.bind (F_spec_l15Zero (x.1, x.2.1, x.2.2.1, x.2.2.2.1, x.2.2.2.2)) fun r30 => some r30 else some false) fun u29 => some u29 else Option.bind (F_spec_l1In (x.1, (1 : Int), (9 : Int))) fun r31 => Option.bind (bif r31 then some r1 else some false) fun u32 => Option.bind (bif u32 then some ((ByteArray.toList x.2.2.1) == (ByteArray.toList ({ data := #[] }))) else some false) fun u33 => Option.bind (bif u33 then Option.bind (F_spec_l1Word x.2.2.2.1) fun r35 => some r35 else some false) fun u34 => Option.bind (bif u34 then Option.bind (F_spec_l1Word x.2.2.2.2) fun r37 => some r37 else some false) fun u36 => Option.bind (bif u36 then Option.bind (F_spec_l15Zero (x.1, x.2.1, x.2.2.1, x.2.2.2.1, x.2.2.2.2)) fun r39 => some r39 else some false) fun u38 => some u38
noncomputable def f110B : Code := match Try.f110.body with
  | some c => c
  | none => .skip
noncomputable def f110K : C.Sem := tab [⟨86, F_spec_l1In⟩, ⟨144, F_spec_NameOk⟩, ⟨145, F_spec_l1Word⟩, ⟨146, F_spec_l15Zero⟩]
noncomputable def f110P : Lp := fun i s {_R} κ => none
theorem k110 : Contract C Try.prog f110K := contract_tab _ (fun p hp => by
    simp only [List.mem_cons, List.mem_nil_iff, or_false] at hp
    rcases hp with rfl | rfl | rfl | rfl
    · exact ok86
    · exact ok144
    · exact ok145
    · exact ok146)
theorem ev110 (x : Int × ByteArray × ByteArray × Int × Int) : evalB C f110K f110P 110 Try.f110 f110B ⟨[.v true [(.int .i64), .str, .str, (.int .i64), (.int .i64)] [false, false, false, false, false]], [⟨false, [.bool], [false]⟩]⟩ [(.int .i64), .str, .str, (.int .i64), (.int .i64)] [.bool] x = F_spec_OpOk x := by kernel_rfl
theorem ok110 : ContractAt C Try.prog 110 F_spec_OpOk := fn_sound (lp := f110P) tok mixed k110 (fn := Try.f110) (c := f110B) (sg := ⟨[.v true [(.int .i64), .str, .str, (.int .i64), (.int .i64)] [false, false, false, false, false]], [⟨false, [.bool], [false]⟩]⟩) Try.func110 (by decide) (by kernel_rfl) (by kernel_rfl) (by kernel_rfl) (fun c' hc' => by
    rw [show loopsOf f110B = [] by kernel_rfl] at hc'
    cases hc') (by decide) (by decide) (fun x y h => (ev110 x).trans h)

/-! ### 49: spec.EntOk -/
noncomputable def F_spec_EntOk (x : Int × Int × ByteArray × ByteArray × Int × Int) : Option (Bool) :=
  Option.bind (F_spec_l1In (x.1, (1 : Int), (60000 : Int))) fun r1 => Option.bind (bif r1 then Option.bind (F_spec_OpOk (x.2.1, x.2.2.1, x.2.2.2.1, x.2.2.2.2.1, x.2.2.2.2.2)) fun r3 => some r3 else some false) fun u2 => some u2
noncomputable def f49B : Code := match Try.f49.body with
  | some c => c
  | none => .skip
noncomputable def f49K : C.Sem := tab [⟨86, F_spec_l1In⟩, ⟨110, F_spec_OpOk⟩]
noncomputable def f49P : Lp := fun i s {_R} κ => none
theorem k49 : Contract C Try.prog f49K := contract_tab _ (fun p hp => by
    simp only [List.mem_cons, List.mem_nil_iff, or_false] at hp
    rcases hp with rfl | rfl
    · exact ok86
    · exact ok110)
theorem ev49 (x : Int × Int × ByteArray × ByteArray × Int × Int) : evalB C f49K f49P 49 Try.f49 f49B ⟨[.v true [(.int .i64), (.int .i64), .str, .str, (.int .i64), (.int .i64)] [false, false, false, false, false, false]], [⟨false, [.bool], [false]⟩]⟩ [(.int .i64), (.int .i64), .str, .str, (.int .i64), (.int .i64)] [.bool] x = F_spec_EntOk x := by kernel_rfl
theorem ok49 : ContractAt C Try.prog 49 F_spec_EntOk := fn_sound (lp := f49P) tok mixed k49 (fn := Try.f49) (c := f49B) (sg := ⟨[.v true [(.int .i64), (.int .i64), .str, .str, (.int .i64), (.int .i64)] [false, false, false, false, false, false]], [⟨false, [.bool], [false]⟩]⟩) Try.func49 (by decide) (by kernel_rfl) (by kernel_rfl) (by kernel_rfl) (fun c' hc' => by
    rw [show loopsOf f49B = [] by kernel_rfl] at hc'
    cases hc') (by decide) (by decide) (fun x y h => (ev49 x).trans h)

/-! ### 65: spec.Crc -/
abbrev T_spec_Crc_7 : Type := List E_u8 × Int × Int × Int
noncomputable def S_spec_Crc_7 {R : Type} (k0 : (List E_u8 × Int × Int) → Option R) (again : T_spec_Crc_7 → Option R) (t7 : T_spec_Crc_7) : Option R :=
  bif (decide (t7.2.2.2 < (8 : Int))) then bif ((Go.bits .and .i64 t7.2.1 (1 : Int)) == (1 : Int)) then again (t7.1, (Go.bits .xor .i64 (Int.fdiv t7.2.1 (2 ^ (min (Int.toNat (1 : Int)) (Go.IntKind.bits .i64)))) (2197175160 : Int)), t7.2.2.1, (Go.IntKind.wrap .i64 (t7.2.2.2 + (1 : Int)))) else again (t7.1, (Int.fdiv t7.2.1 (2 ^ (min (Int.toNat (1 : Int)) (Go.IntKind.bits .i64)))), t7.2.2.1, (Go.IntKind.wrap .i64 (t7.2.2.2 + (1 : Int)))) else k0 (t7.1, t7.2.1, t7.2.2.1)
noncomputable def L_spec_Crc_7 {R : Type} (k0 : (List E_u8 × Int × Int) → Option R) (t : T_spec_Crc_7) : Option R := iter (S_spec_Crc_7 k0) FUEL t
abbrev T_spec_Crc_3 : Type := List E_u8 × Int × Int
noncomputable def S_spec_Crc_3 {R : Type} (k0 : Int → Option R) (again : T_spec_Crc_3 → Option R) (t3 : T_spec_Crc_3) : Option R :=
  bif (decide (t3.2.2 < ((List.length t3.1 : Nat) : Int))) then if (0 : Int) ≤ t3.2.2 then if t3.2.2 < ((List.length t3.1 : Nat) : Int) then L_spec_Crc_7 (fun x1 => again (x1.1, x1.2.1, (Go.IntKind.wrap .i64 (x1.2.2 + (1 : Int))))) (t3.1, (Go.bits .xor .i64 t3.2.1 (Go.IntKind.wrap .i64 (rd_u8 t3.1 t3.2.2))), t3.2.2, (0 : Int)) else none else none else k0 t3.2.1
noncomputable def L_spec_Crc_3 {R : Type} (k0 : Int → Option R) (t : T_spec_Crc_3) : Option R := iter (S_spec_Crc_3 k0) FUEL t
noncomputable def F_spec_Crc (x : List E_u8) : Option (Int) :=
  L_spec_Crc_3 (fun x2 => some (Go.bits .xor .i64 x2 (4294967295 : Int))) (x, (4294967295 : Int), (0 : Int))
noncomputable def f65B : Code := match Try.f65.body with
  | some c => c
  | none => .skip
noncomputable def f65K : C.Sem := tab []
def f65h7_0 : List Sh := [.v (.sl 5 ts_u8), .dead, .dead, .v (.int .i64), .v (.int .i64), .v (.int .i64), .dead, .dead, .dead, .dead, .dead, .dead, .dead, .dead, .dead, .dead, .dead, .dead, .dead, .dead, .dead, .dead, .dead, .dead, .dead, .dead, .dead, .dead, .dead, .dead, .dead, .dead, .dead]
def f65o7_0 : List (Nat × OSh) := []
def f65e7_0 (t : List E_u8 × Int × Int × Int) : St := mkS f65h7_0 f65o7_0 ((t.1, (), (), t.2.1, t.2.2.1, t.2.2.2, (), (), (), (), (), (), (), (), (), (), (), (), (), (), (), (), (), (), (), (), (), (), (), (), (), (), (), ()), ())
def f65g7_0 : List Sh := [.v (.sl 5 ts_u8), .dead, .dead, .v (.int .i64), .v (.int .i64), .dead, .dead, .dead, .dead, .dead, .dead, .dead, .dead, .dead, .dead, .dead, .dead, .dead, .dead, .dead, .dead, .dead, .dead, .dead, .dead, .dead, .dead, .dead, .dead, .dead, .dead, .dead, .dead]
def f65p7_0 : List (Nat × OSh) := []
def f65x7_0 (t : List E_u8 × Int × Int) : St := mkS f65g7_0 f65p7_0 ((t.1, (), (), t.2.1, t.2.2, (), (), (), (), (), (), (), (), (), (), (), (), (), (), (), (), (), (), (), (), (), (), (), (), (), (), (), (), ()), ())
def f65u7_0 (s : St) : Option (List E_u8 × Int × Int × Int) := (unS f65h7_0 f65o7_0 s).map fun v => (v.1.1, v.1.2.2.2.1, v.1.2.2.2.2.1, v.1.2.2.2.2.2.1)
theorem f65un7_0 : ∀ (s : St) (t : List E_u8 × Int × Int × Int), f65u7_0 s = some t → f65e7_0 t = s := fun s v h => by
  obtain ⟨u, hu, rfl⟩ := Option.map_eq_some_iff.1 h
  exact mkS_un f65h7_0 f65o7_0 s u hu
def f65u7 : St → Option (List E_u8 × Int × Int × Int) := f65u7_0
def f65e7 : (List E_u8 × Int × Int × Int) → St := f65e7_0
theorem f65un7 : ∀ (s : St) (t : List E_u8 × Int × Int × Int), f65u7 s = some t → f65e7 t = s := f65un7_0
def f65h3_0 : List Sh := [.v (.sl 5 ts_u8), .dead, .dead, .v (.int .i64), .v (.int .i64), .dead, .dead, .dead, .dead, .dead, .dead, .dead, .dead, .dead, .dead, .dead, .dead, .dead, .dead, .dead, .dead, .dead, .dead, .dead, .dead, .dead, .dead, .dead, .dead, .dead, .dead, .dead, .dead]
def f65o3_0 : List (Nat × OSh) := []
def f65e3_0 (t : List E_u8 × Int × Int) : St := mkS f65h3_0 f65o3_0 ((t.1, (), (), t.2.1, t.2.2, (), (), (), (), (), (), (), (), (), (), (), (), (), (), (), (), (), (), (), (), (), (), (), (), (), (), (), (), ()), ())
def f65g3_0 : List Sh := [.dead, .dead, .dead, .v (.int .i64), .dead, .dead, .dead, .dead, .dead, .dead, .dead, .dead, .dead, .dead, .dead, .dead, .dead, .dead, .dead, .dead, .dead, .dead, .dead, .dead, .dead, .dead, .dead, .dead, .dead, .dead, .dead, .dead, .dead]
def f65p3_0 : List (Nat × OSh) := []
def f65x3_0 (t : Int) : St := mkS f65g3_0 f65p3_0 (((), (), (), t, (), (), (), (), (), (), (), (), (), (), (), (), (), (), (), (), (), (), (), (), (), (), (), (), (), (), (), (), (), ()), ())
def f65u3_0 (s : St) : Option (List E_u8 × Int × Int) := (unS f65h3_0 f65o3_0 s).map fun v => (v.1.1, v.1.2.2.2.1, v.1.2.2.2.2.1)
theorem f65un3_0 : ∀ (s : St) (t : List E_u8 × Int × Int), f65u3_0 s = some t → f65e3_0 t = s := fun s v h => by
  obtain ⟨u, hu, rfl⟩ := Option.map_eq_some_iff.1 h
  exact mkS_un f65h3_0 f65o3_0 s u hu
def f65u3 : St → Option (List E_u8 × Int × Int) := f65u3_0
def f65e3 : (List E_u8 × Int × Int) → St := f65e3_0
theorem f65un3 : ∀ (s : St) (t : List E_u8 × Int × Int), f65u3 s = some t → f65e3 t = s := f65un3_0
noncomputable def f65P : Lp := fun i s {_R} κ => bif Nat.beq i 3 then (f65u3 s).bind fun t => L_spec_Crc_3 (fun t => κ (some 0) (f65x3_0 t)) t else bif Nat.beq i 7 then (f65u7 s).bind fun t => L_spec_Crc_7 (fun t => κ (some 2) (f65x7_0 t)) t else none
noncomputable def f65c7 : Code := (loopsOf f65B).getD 1 .skip
theorem f65A7 : C.live 65 (firstRegion f65c7) = some ([0, 3, 4, 5], [0, 3, 4]) := by kernel_rfl
theorem f65B7 {R : Type} (κ : Option Nat → St → Option R) (s : St) : f65P (firstRegion f65c7) s κ = (f65u7 s).bind fun t => iter (S_spec_Crc_7 (fun t => κ (some 2) (f65x7_0 t))) FUEL t := by kernel_rfl
theorem f65C7 {R : Type} (κ : Option Nat → St → Option R) (again : St → Option R) (t : T_spec_Crc_7) : stepL C f65K f65P 65 f65c7 [0, 3, 4, 5] [0, 3, 4] κ again (f65e7 t) = S_spec_Crc_7 (fun t => κ (some 2) (f65x7_0 t)) (fun t => again (f65e7 t)) t := by kernel_rfl
theorem f65ok7 : LoopOk C f65K f65P 65 f65c7 := loop_ok f65A7 f65e7 f65u7 f65un7 (fun {_R} κ => S_spec_Crc_7 (fun t => κ (some 2) (f65x7_0 t))) (fun {_R} κ s => f65B7 κ s) (fun {_R} κ again t => f65C7 κ again t)
noncomputable def f65c3 : Code := (loopsOf f65B).getD 0 .skip
theorem f65A3 : C.live 65 (firstRegion f65c3) = some ([0, 3, 4], [3]) := by kernel_rfl
theorem f65B3 {R : Type} (κ : Option Nat → St → Option R) (s : St) : f65P (firstRegion f65c3) s κ = (f65u3 s).bind fun t => iter (S_spec_Crc_3 (fun t => κ (some 0) (f65x3_0 t))) FUEL t := by kernel_rfl
theorem f65C3 {R : Type} (κ : Option Nat → St → Option R) (again : St → Option R) (t : T_spec_Crc_3) : stepL C f65K f65P 65 f65c3 [0, 3, 4] [3] κ again (f65e3 t) = S_spec_Crc_3 (fun t => κ (some 0) (f65x3_0 t)) (fun t => again (f65e3 t)) t := by kernel_rfl
theorem f65ok3 : LoopOk C f65K f65P 65 f65c3 := loop_ok f65A3 f65e3 f65u3 f65un3 (fun {_R} κ => S_spec_Crc_3 (fun t => κ (some 0) (f65x3_0 t))) (fun {_R} κ s => f65B3 κ s) (fun {_R} κ again t => f65C3 κ again t)
theorem k65 : Contract C Try.prog f65K := contract_tab _ (fun p hp => by cases hp)
theorem ev65 (x : List E_u8) : evalB C f65K f65P 65 Try.f65 f65B ⟨[.v false [(.sl 5 ts_u8)] [false]], [⟨false, [(.int .i64)], [false]⟩]⟩ [(.sl 5 ts_u8)] [(.int .i64)] x = F_spec_Crc x := by kernel_rfl
theorem ok65 : ContractAt C Try.prog 65 F_spec_Crc := fn_sound (lp := f65P) tok mixed k65 (fn := Try.f65) (c := f65B) (sg := ⟨[.v false [(.sl 5 ts_u8)] [false]], [⟨false, [(.int .i64)], [false]⟩]⟩) Try.func65 (by decide) (by kernel_rfl) (by kernel_rfl) (by kernel_rfl) (fun c' hc' => by
    rw [show loopsOf f65B = [f65c3, f65c7] by kernel_rfl] at hc'
    simp only [List.mem_cons, List.mem_nil_iff, or_false] at hc'
    rcases hc' with rfl | rfl
    · exact f65ok3
    · exact f65ok7) (by decide) (by decide) (fun x y h => (ev65 x).trans h)

/-! ### 83: spec.l17Get -/
noncomputable def F_spec_l17Get (x : List E_u8 × Int) : Option (Int) :=
  if (0 : Int) ≤ x.2 then if x.2 < ((List.length x.1 : Nat) : Int) then if (0 : Int) ≤ (Go.IntKind.wrap .i64 (x.2 + (1 : Int))) then if (Go.IntKind.wrap .i64 (x.2 + (1 : Int))) < ((List.length x.1 : Nat) : Int) then if (0 : Int) ≤ (Go.IntKind.wrap .i64 (x.2 + (2 : Int))) then if (Go.IntKind.wrap .i64 (x.2 + (2 : Int))) < ((List.length x.1 : Nat) : Int) then if (0 : Int) ≤ (Go.IntKind.wrap .i64 (x.2 + (3 : Int))) then if (Go.IntKind.wrap .i64 (x.2 + (3 : Int))) < ((List.length x.1 : Nat) : Int) then some (Go.bits .or .i64 (Go.bits .or .i64 (Go.bits .or .i64 (Go.IntKind.wrap .i64 ((Go.IntKind.wrap .i64 (rd_u8 x.1 x.2)) * 2 ^ (min (Int.toNat (24 : Int)) (Go.IntKind.bits .i64)))) (Go.IntKind.wrap .i64 ((Go.IntKind.wrap .i64 (rd_u8 x.1 (Go.IntKind.wrap .i64 (x.2 + (1 : Int))))) * 2 ^ (min (Int.toNat (16 : Int)) (Go.IntKind.bits .i64))))) (Go.IntKind.wrap .i64 ((Go.IntKind.wrap .i64 (rd_u8 x.1 (Go.IntKind.wrap .i64 (x.2 + (2 : Int))))) * 2 ^ (min (Int.toNat (8 : Int)) (Go.IntKind.bits .i64))))) (Go.IntKind.wrap .i64 (rd_u8 x.1 (Go.IntKind.wrap .i64 (x.2 + (3 : Int)))))) else none else none else none else none else none else none else none else none
noncomputable def f83B : Code := match Try.f83.body with
  | some c => c
  | none => .skip
noncomputable def f83K : C.Sem := tab []
noncomputable def f83P : Lp := fun i s {_R} κ => none
theorem k83 : Contract C Try.prog f83K := contract_tab _ (fun p hp => by cases hp)
theorem ev83 (x : List E_u8 × Int) : evalB C f83K f83P 83 Try.f83 f83B ⟨[.v false [(.sl 5 ts_u8)] [false], .v false [(.int .i64)] [false]], [⟨false, [(.int .i64)], [false]⟩]⟩ [(.sl 5 ts_u8), (.int .i64)] [(.int .i64)] x = F_spec_l17Get x := by kernel_rfl
theorem ok83 : ContractAt C Try.prog 83 F_spec_l17Get := fn_sound (lp := f83P) tok mixed k83 (fn := Try.f83) (c := f83B) (sg := ⟨[.v false [(.sl 5 ts_u8)] [false], .v false [(.int .i64)] [false]], [⟨false, [(.int .i64)], [false]⟩]⟩) Try.func83 (by decide) (by kernel_rfl) (by kernel_rfl) (by kernel_rfl) (fun c' hc' => by
    rw [show loopsOf f83B = [] by kernel_rfl] at hc'
    cases hc') (by decide) (by decide) (fun x y h => (ev83 x).trans h)

/-! ### 84: spec.GetW -/
noncomputable def F_spec_GetW (x : List E_u8 × Int) : Option (Int × Int × Bool) :=
  Option.bind (F_spec_l1In (x.2, (0 : Int), (Go.IntKind.wrap .i64 (((List.length x.1 : Nat) : Int) - (2 : Int))))) fun r1 => bif (!r1) then some ((0 : Int), (0 : Int), false) else if (0 : Int) ≤ x.2 then if x.2 < ((List.length x.1 : Nat) : Int) then if (0 : Int) ≤ (Go.IntKind.wrap .i64 (x.2 + (1 : Int))) then if (Go.IntKind.wrap .i64 (x.2 + (1 : Int))) < ((List.length x.1 : Nat) : Int) then some ((Go.bits .or .i64 (Go.IntKind.wrap .i64 ((Go.IntKind.wrap .i64 (rd_u8 x.1 x.2)) * 2 ^ (min (Int.toNat (8 : Int)) (Go.IntKind.bits .i64)))) (Go.IntKind.wrap .i64 (rd_u8 x.1 (Go.IntKind.wrap .i64 (x.2 + (1 : Int)))))), (Go.IntKind.wrap .i64 (x.2 + (2 : Int))), true) else none else none else none else none
noncomputable def f84B : Code := match Try.f84.body with
  | some c => c
  | none => .skip
noncomputable def f84K : C.Sem := tab [⟨86, F_spec_l1In⟩]
noncomputable def f84P : Lp := fun i s {_R} κ => none
theorem k84 : Contract C Try.prog f84K := contract_tab _ (fun p hp => by
    simp only [List.mem_cons, List.mem_nil_iff, or_false] at hp
    rcases hp with rfl
    · exact ok86)
theorem ev84 (x : List E_u8 × Int) : evalB C f84K f84P 84 Try.f84 f84B ⟨[.v false [(.sl 5 ts_u8)] [false], .v false [(.int .i64)] [false]], [⟨false, [(.int .i64)], [false]⟩, ⟨false, [(.int .i64)], [false]⟩, ⟨false, [.bool], [false]⟩]⟩ [(.sl 5 ts_u8), (.int .i64)] [(.int .i64), (.int .i64), .bool] x = F_spec_GetW x := by kernel_rfl
theorem ok84 : ContractAt C Try.prog 84 F_spec_GetW := fn_sound (lp := f84P) tok mixed k84 (fn := Try.f84) (c := f84B) (sg := ⟨[.v false [(.sl 5 ts_u8)] [false], .v false [(.int .i64)] [false]], [⟨false, [(.int .i64)], [false]⟩, ⟨false, [(.int .i64)], [false]⟩, ⟨false, [.bool], [false]⟩]⟩) Try.func84 (by decide) (by kernel_rfl) (by kernel_rfl) (by kernel_rfl) (fun c' hc' => by
    rw [show loopsOf f84B = [] by kernel_rfl] at hc'
    cases hc') (by decide) (by decide) (fun x y h => (ev84 x).trans h)

/-! ### 134: spec.GetText -/
noncomputable def F_spec_GetText (x : List E_u8 × Int) : Option (ByteArray × Int × Bool) :=
  Option.bind (F_spec_GetW (x.1, x.2)) fun r1 => Option.bind (bif (!r1.2.2) then some true else some (decide (r1.1 > (60 : Int)))) fun u2 => Option.bind (bif u2 then some true else some (decide (r1.1 > (Go.IntKind.wrap .i64 (((List.length x.1 : Nat) : Int) - r1.2.1))))) fun u3 => bif u3 then some ({ data := #[] }, (0 : Int), false) else if (0 : Int) ≤ r1.2.1 then if r1.2.1 ≤ (Go.IntKind.wrap .i64 (r1.2.1 + r1.1)) then if (Go.IntKind.wrap .i64 (r1.2.1 + r1.1)) ≤ ((List.length x.1 : Nat) : Int) then some ((textOf (List.drop (Int.toNat r1.2.1) (List.take (Int.toNat (Go.IntKind.wrap .i64 (r1.2.1 + r1.1))) x.1))), (Go.IntKind.wrap .i64 (r1.2.1 + r1.1)), true) else none else none else none
noncomputable def f134B : Code := match Try.f134.body with
  | some c => c
  | none => .skip
noncomputable def f134K : C.Sem := tab [⟨84, F_spec_GetW⟩]
noncomputable def f134P : Lp := fun i s {_R} κ => none
theorem k134 : Contract C Try.prog f134K := contract_tab _ (fun p hp => by
    simp only [List.mem_cons, List.mem_nil_iff, or_false] at hp
    rcases hp with rfl
    · exact ok84)
theorem ev134 (x : List E_u8 × Int) : evalB C f134K f134P 134 Try.f134 f134B ⟨[.v false [(.sl 5 ts_u8)] [false], .v false [(.int .i64)] [false]], [⟨false, [.str], [false]⟩, ⟨false, [(.int .i64)], [false]⟩, ⟨false, [.bool], [false]⟩]⟩ [(.sl 5 ts_u8), (.int .i64)] [.str, (.int .i64), .bool] x = F_spec_GetText x := by kernel_rfl
theorem ok134 : ContractAt C Try.prog 134 F_spec_GetText := fn_sound (lp := f134P) tok mixed k134 (fn := Try.f134) (c := f134B) (sg := ⟨[.v false [(.sl 5 ts_u8)] [false], .v false [(.int .i64)] [false]], [⟨false, [.str], [false]⟩, ⟨false, [(.int .i64)], [false]⟩, ⟨false, [.bool], [false]⟩]⟩) Try.func134 (by decide) (by kernel_rfl) (by kernel_rfl) (by kernel_rfl) (fun c' hc' => by
    rw [show loopsOf f134B = [] by kernel_rfl] at hc'
    cases hc') (by decide) (by decide) (fun x y h => (ev134 x).trans h)

/-! ### 87: spec.GetOp -/
noncomputable def F_spec_GetOp (x : List E_u8 × Int) : Option (Int × ByteArray × ByteArray × Int × Int × Int × Bool) :=
  Option.bind (F_spec_l1In (x.2, (0 : Int), (Go.IntKind.wrap .i64 (((List.length x.1 : Nat) : Int) - (1 : Int))))) fun r1 => bif (!r1) then some ((0 : Int), (⟨#[]⟩ : ByteArray), (⟨#[]⟩ : ByteArray), (0 : Int), (0 : Int), (0 : Int), false) else if (0 : Int) ≤ x.2 then if x.2 < ((List.length x.1 : Nat) : Int) then Option.bind (F_spec_GetText (x.1, (Go.IntKind.wrap .i64 (x.2 + (1 : Int))))) fun r2 => Option.bind (F_spec_GetText (x.1, r2.2.1)) fun r3 => Option.bind (F_spec_GetW (x.1, r3.2.1)) fun r4 => Option.bind (F_spec_GetW (x.1, r4.2.1)) fun r5 => Option.bind (bif (!r2.2.2) then some true else some (!r3.2.2)) fun u6 => Option.bind (bif u6 then some true else some (!r4.2.2)) fun u7 => Option.bind (bif u7 then some true else some (!r5.2.2)) fun u8 => Option.bind (bif u8 then some true else Option.bind (F_spec_OpOk ((Go.IntKind.wrap .i64 (rd_u8 x.1 x.2)), r2.1, r3.1, r4.1, r5.1)) fun r10 => some (!r10)) fun u9 => bif u9 then some ((0 : Int), (⟨#[]⟩ : ByteArray), (⟨#[]⟩ : ByteArray), (0 : Int), (0 : Int), (0 : Int), false) else some ((Go.IntKind.wrap .i64 (rd_u8 x.1 x.2)), r2.1, r3.1, r4.1, r5.1, r5.2.1, true) else none else none
noncomputable def f87B : Code := match Try.f87.body with
  | some c => c
  | none => .skip
noncomputable def f87K : C.Sem := tab [⟨84, F_spec_GetW⟩, ⟨86, F_spec_l1In⟩, ⟨110, F_spec_OpOk⟩, ⟨134, F_spec_GetText⟩]
noncomputable def f87P : Lp := fun i s {_R} κ => none
theorem k87 : Contract C Try.prog f87K := contract_tab _ (fun p hp => by
    simp only [List.mem_cons, List.mem_nil_iff, or_false] at hp
    rcases hp with rfl | rfl | rfl | rfl
    · exact ok84
    · exact ok86
    · exact ok110
    · exact ok134)
theorem ev87 (x : List E_u8 × Int) : evalB C f87K f87P 87 Try.f87 f87B ⟨[.v false [(.sl 5 ts_u8)] [false], .v false [(.int .i64)] [false]], [⟨true, [(.int .i64), .str, .str, (.int .i64), (.int .i64)], [false, false, false, false, false]⟩, ⟨false, [(.int .i64)], [false]⟩, ⟨false, [.bool], [false]⟩]⟩ [(.sl 5 ts_u8), (.int .i64)] [(.int .i64), .str, .str, (.int .i64), (.int .i64), (.int .i64), .bool] x = F_spec_GetOp x := by kernel_rfl
theorem ok87 : ContractAt C Try.prog 87 F_spec_GetOp := fn_sound (lp := f87P) tok mixed k87 (fn := Try.f87) (c := f87B) (sg := ⟨[.v false [(.sl 5 ts_u8)] [false], .v false [(.int .i64)] [false]], [⟨true, [(.int .i64), .str, .str, (.int .i64), (.int .i64)], [false, false, false, false, false]⟩, ⟨false, [(.int .i64)], [false]⟩, ⟨false, [.bool], [false]⟩]⟩) Try.func87 (by decide) (by kernel_rfl) (by kernel_rfl) (by kernel_rfl) (fun c' hc' => by
    rw [show loopsOf f87B = [] by kernel_rfl] at hc'
    cases hc') (by decide) (by decide) (fun x y h => (ev87 x).trans h)

/-! ### 30: spec.GetEnt -/
noncomputable def F_spec_GetEnt (x : List E_u8) : Option (Int × Int × ByteArray × ByteArray × Int × Int × Bool) :=
  Option.bind (bif (decide ((Go.IntKind.wrap .i64 (((List.length x : Nat) : Int) - (4 : Int))) < (2 : Int))) then some true else Option.bind (F_spec_l17Get (x, (Go.IntKind.wrap .i64 (((List.length x : Nat) : Int) - (4 : Int))))) fun r2 => if (0 : Int) ≤ (0 : Int) then if (0 : Int) ≤ (Go.IntKind.wrap .i64 (((List.length x : Nat) : Int) - (4 : Int))) then if (Go.IntKind.wrap .i64 (((List.length x : Nat) : Int) - (4 : Int))) ≤ ((List.length x : Nat) : Int) then Option.bind (F_spec_Crc (List.drop (Int.toNat (0 : Int)) (List.take (Int.toNat (Go.IntKind.wrap .i64 (((List.length x : Nat) : Int) - (4 : Int)))) x))) fun r3 => some (r2 != r3) else none else none else none) fun u1 => bif u1 then some ((0 : Int), (0 : Int), (⟨#[]⟩ : ByteArray), (⟨#[]⟩ : ByteArray), (0 : Int), (0 : Int), false) else Option.bind (F_spec_GetW (x, (0 : Int))) fun r4 => if (0 : Int) ≤ (0 : Int) then if (0 : Int) ≤ (Go.IntKind.wrap .i64 (((List.length x : Nat) : Int) - (4 : Int))) then if (Go.IntKind.wrap .i64 (((List.length x : Nat) : Int) - (4 : Int))) ≤ ((List.length x : Nat) : Int) then Option.bind (F_spec_GetOp ((List.drop (Int.toNat (0 : Int)) (List.take (Int.toNat (Go.IntKind.wrap .i64 (((List.length x : Nat) : Int) - (4 : Int)))) x)), r4.2.1)) fun r5 => Option.bind (bif (!r5.2.2.2.2.2.2) then some true else some (r5.2.2.2.2.2.1 != (Go.IntKind.wrap .i64 (((List.length x : Nat) : Int) - (4 : Int))))) fun u6 => Option.bind (bif u6 then some true else Option.bind (F_spec_EntOk (r4.1, r5.1, r5.2.1, r5.2.2.1, r5.2.2.2.1, r5.2.2.2.2.1)) fun r8 => some (!r8)) fun u7 => bif u7 then some ((0 : Int), (0 : Int), (⟨#[]⟩ : ByteArray), (⟨#[]⟩ : ByteArray), (0 : Int), (0 : Int), false) else some (r4.1, r5.1, r5.2.1, r5.2.2.1, r5.2.2.2.1, r5.2.2.2.2.1, true) else none else none else none
noncomputable def f30B : Code := match Try.f30.body with
  | some c => c
  | none => .skip
noncomputable def f30K : C.Sem := tab [⟨49, F_spec_EntOk⟩, ⟨65, F_spec_Crc⟩, ⟨83, F_spec_l17Get⟩, ⟨84, F_spec_GetW⟩, ⟨87, F_spec_GetOp⟩]
noncomputable def f30P : Lp := fun i s {_R} κ => none
theorem k30 : Contract C Try.prog f30K := contract_tab _ (fun p hp => by
    simp only [List.mem_cons, List.mem_nil_iff, or_false] at hp
    rcases hp with rfl | rfl | rfl | rfl | rfl
    · exact ok49
    · exact ok65
    · exact ok83
    · exact ok84
    · exact ok87)
theorem ev30 (x : List E_u8) : evalB C f30K f30P 30 Try.f30 f30B ⟨[.v false [(.sl 5 ts_u8)] [false]], [⟨true, [(.int .i64), (.int .i64), .str, .str, (.int .i64), (.int .i64)], [false, false, false, false, false, false]⟩, ⟨false, [.bool], [false]⟩]⟩ [(.sl 5 ts_u8)] [(.int .i64), (.int .i64), .str, .str, (.int .i64), (.int .i64), .bool] x = F_spec_GetEnt x := by kernel_rfl
theorem ok30 : ContractAt C Try.prog 30 F_spec_GetEnt := fn_sound (lp := f30P) tok mixed k30 (fn := Try.f30) (c := f30B) (sg := ⟨[.v false [(.sl 5 ts_u8)] [false]], [⟨true, [(.int .i64), (.int .i64), .str, .str, (.int .i64), (.int .i64)], [false, false, false, false, false, false]⟩, ⟨false, [.bool], [false]⟩]⟩) Try.func30 (by decide) (by kernel_rfl) (by kernel_rfl) (by kernel_rfl) (fun c' hc' => by
    rw [show loopsOf f30B = [] by kernel_rfl] at hc'
    cases hc') (by decide) (by decide) (fun x y h => (ev30 x).trans h)

/-! ### 31: laws.toByteS -/
abbrev T_laws_toByteS_3 : Type := List E_u8 × Int × List E_u8
noncomputable def S_laws_toByteS_3 {R : Type} (k0 : List E_u8 → Option R) (again : T_laws_toByteS_3 → Option R) (t3 : T_laws_toByteS_3) : Option R :=
  bif (decide (t3.2.1 < ((List.length t3.1 : Nat) : Int))) then if (0 : Int) ≤ t3.2.1 then if t3.2.1 < ((List.length t3.1 : Nat) : Int) then if (0 : Int) ≤ t3.2.1 then if t3.2.1 < ((List.length t3.2.2 : Nat) : Int) then again (t3.1, (Go.IntKind.wrap .i64 (t3.2.1 + (1 : Int))), (List.set t3.2.2 (Int.toNat t3.2.1) (rd_u8 t3.1 t3.2.1))) else none else none else none else none else k0 t3.2.2
noncomputable def L_laws_toByteS_3 {R : Type} (k0 : List E_u8 → Option R) (t : T_laws_toByteS_3) : Option R := iter (S_laws_toByteS_3 k0) FUEL t
noncomputable def F_laws_toByteS (x : List E_u8) : Option (List E_u8) :=
  if (0 : Int) ≤ ((List.length x : Nat) : Int) then if ((List.length x : Nat) : Int) ≤ ((List.length x : Nat) : Int) then if ((List.length x : Nat) : Int) * ((1 : Nat) : Int) ≤ 140737488351232 then L_laws_toByteS_3 (fun x1 => some x1) (x, (0 : Int), (List.replicate (Int.toNat ((List.length x : Nat) : Int)) z_u8)) else none else none else none
noncomputable def f31B : Code := match Try.f31.body with
  | some c => c
  | none => .skip
noncomputable def f31K : C.Sem := tab []
def f31h3_0 : List Sh := [.v (.sl 5 ts_u8), .dead, .dead, .own 10000000, .v (.int .i64), .dead, .dead, .dead, .dead, .dead, .dead, .dead, .dead, .dead, .dead, .dead, .dead, .dead, .dead, .dead, .dead, .dead]
def f31o3_0 : List (Nat × OSh) := [(10000000, .root true 5 ts_u8)]
def f31e3_0 (t : List E_u8 × Int × List E_u8) : St := mkS f31h3_0 f31o3_0 ((t.1, (), (), (), t.2.1, (), (), (), (), (), (), (), (), (), (), (), (), (), (), (), (), (), ()), (t.2.2, ()))
def f31g3_0 : List Sh := [.dead, .dead, .dead, .own 10000000, .dead, .dead, .dead, .dead, .dead, .dead, .dead, .dead, .dead, .dead, .dead, .dead, .dead, .dead, .dead, .dead, .dead, .dead]
def f31p3_0 : List (Nat × OSh) := [(10000000, .root true 5 ts_u8)]
def f31x3_0 (t : List E_u8) : St := mkS f31g3_0 f31p3_0 (((), (), (), (), (), (), (), (), (), (), (), (), (), (), (), (), (), (), (), (), (), (), ()), (t, ()))
def f31u3_0 (s : St) : Option (List E_u8 × Int × List E_u8) := (unS f31h3_0 f31o3_0 s).map fun v => (v.1.1, v.1.2.2.2.2.1, v.2.1)
theorem f31un3_0 : ∀ (s : St) (t : List E_u8 × Int × List E_u8), f31u3_0 s = some t → f31e3_0 t = s := fun s v h => by
  obtain ⟨u, hu, rfl⟩ := Option.map_eq_some_iff.1 h
  exact mkS_un f31h3_0 f31o3_0 s u hu
def f31u3 : St → Option (List E_u8 × Int × List E_u8) := f31u3_0
def f31e3 : (List E_u8 × Int × List E_u8) → St := f31e3_0
theorem f31un3 : ∀ (s : St) (t : List E_u8 × Int × List E_u8), f31u3 s = some t → f31e3 t = s := f31un3_0
noncomputable def f31P : Lp := fun i s {_R} κ => bif Nat.beq i 3 then (f31u3 s).bind fun t => L_laws_toByteS_3 (fun t => κ (some 0) (f31x3_0 t)) t else none
noncomputable def f31c3 : Code := (loopsOf f31B).getD 0 .skip
theorem f31A3 : C.live 31 (firstRegion f31c3) = some ([0, 3, 4], [3]) := by kernel_rfl
theorem f31B3 {R : Type} (κ : Option Nat → St → Option R) (s : St) : f31P (firstRegion f31c3) s κ = (f31u3 s).bind fun t => iter (S_laws_toByteS_3 (fun t => κ (some 0) (f31x3_0 t))) FUEL t := by kernel_rfl
theorem f31C3 {R : Type} (κ : Option Nat → St → Option R) (again : St → Option R) (t : T_laws_toByteS_3) : stepL C f31K f31P 31 f31c3 [0, 3, 4] [3] κ again (f31e3 t) = S_laws_toByteS_3 (fun t => κ (some 0) (f31x3_0 t)) (fun t => again (f31e3 t)) t := by kernel_rfl
theorem f31ok3 : LoopOk C f31K f31P 31 f31c3 := loop_ok f31A3 f31e3 f31u3 f31un3 (fun {_R} κ => S_laws_toByteS_3 (fun t => κ (some 0) (f31x3_0 t))) (fun {_R} κ s => f31B3 κ s) (fun {_R} κ again t => f31C3 κ again t)
theorem k31 : Contract C Try.prog f31K := contract_tab _ (fun p hp => by cases hp)
theorem ev31 (x : List E_u8) : evalB C f31K f31P 31 Try.f31 f31B ⟨[.v false [(.sl 5 ts_u8)] [false]], [⟨false, [(.sl 5 ts_u8)], [true]⟩]⟩ [(.sl 5 ts_u8)] [(.sl 5 ts_u8)] x = F_laws_toByteS x := by kernel_rfl
theorem ok31 : ContractAt C Try.prog 31 F_laws_toByteS := fn_sound (lp := f31P) tok mixed k31 (fn := Try.f31) (c := f31B) (sg := ⟨[.v false [(.sl 5 ts_u8)] [false]], [⟨false, [(.sl 5 ts_u8)], [true]⟩]⟩) Try.func31 (by decide) (by kernel_rfl) (by kernel_rfl) (by kernel_rfl) (fun c' hc' => by
    rw [show loopsOf f31B = [f31c3] by kernel_rfl] at hc'
    simp only [List.mem_cons, List.mem_nil_iff, or_false] at hc'
    rcases hc' with rfl
    · exact f31ok3) (by decide) (by decide) (fun x y h => (ev31 x).trans h)

/-! ### 85: impl.within -/
noncomputable def F_impl_within (x : Int × Int × Int) : Option (Bool) :=
  Option.bind (bif (decide (x.1 ≥ x.2.1)) then some (decide (x.1 ≤ x.2.2)) else some false) fun u1 => some u1
noncomputable def f85B : Code := match Try.f85.body with
  | some c => c
  | none => .skip
noncomputable def f85K : C.Sem := tab []
noncomputable def f85P : Lp := fun i s {_R} κ => none
theorem k85 : Contract C Try.prog f85K := contract_tab _ (fun p hp => by cases hp)
theorem ev85 (x : Int × Int × Int) : evalB C f85K f85P 85 Try.f85 f85B ⟨[.v false [(.int .i64)] [false], .v false [(.int .i64)] [false], .v false [(.int .i64)] [false]], [⟨false, [.bool], [false]⟩]⟩ [(.int .i64), (.int .i64), (.int .i64)] [.bool] x = F_impl_within x := by kernel_rfl
theorem ok85 : ContractAt C Try.prog 85 F_impl_within := fn_sound (lp := f85P) tok mixed k85 (fn := Try.f85) (c := f85B) (sg := ⟨[.v false [(.int .i64)] [false], .v false [(.int .i64)] [false], .v false [(.int .i64)] [false]], [⟨false, [.bool], [false]⟩]⟩) Try.func85 (by decide) (by kernel_rfl) (by kernel_rfl) (by kernel_rfl) (fun c' hc' => by
    rw [show loopsOf f85B = [] by kernel_rfl] at hc'
    cases hc') (by decide) (by decide) (fun x y h => (ev85 x).trans h)

/-! ### 142: impl.isWord -/
noncomputable def F_impl_isWord (x : Int) : Option (Bool) :=
  Option.bind (F_impl_within (x, (0 : Int), (65535 : Int))) fun r1 => some r1
noncomputable def f142B : Code := match Try.f142.body with
  | some c => c
  | none => .skip
noncomputable def f142K : C.Sem := tab [⟨85, F_impl_within⟩]
noncomputable def f142P : Lp := fun i s {_R} κ => none
theorem k142 : Contract C Try.prog f142K := contract_tab _ (fun p hp => by
    simp only [List.mem_cons, List.mem_nil_iff, or_false] at hp
    rcases hp with rfl
    · exact ok85)
theorem ev142 (x : Int) : evalB C f142K f142P 142 Try.f142 f142B ⟨[.v false [(.int .i64)] [false]], [⟨false, [.bool], [false]⟩]⟩ [(.int .i64)] [.bool] x = F_impl_isWord x := by kernel_rfl
theorem ok142 : ContractAt C Try.prog 142 F_impl_isWord := fn_sound (lp := f142P) tok mixed k142 (fn := Try.f142) (c := f142B) (sg := ⟨[.v false [(.int .i64)] [false]], [⟨false, [.bool], [false]⟩]⟩) Try.func142 (by decide) (by kernel_rfl) (by kernel_rfl) (by kernel_rfl) (fun c' hc' => by
    rw [show loopsOf f142B = [] by kernel_rfl] at hc'
    cases hc') (by decide) (by decide) (fun x y h => (ev142 x).trans h)

/-! ### 143: impl.NameOk -/
abbrev T_impl_NameOk_2 : Type := ByteArray × Int
noncomputable def S_impl_NameOk_2 {R : Type} (k0 : (ByteArray × Bool) → Option R) (k1 : ByteArray → Option R) (again : T_impl_NameOk_2 → Option R) (t2 : T_impl_NameOk_2) : Option R :=
  bif (decide (t2.2 < ((ByteArray.size t2.1 : Nat) : Int))) then if (0 : Int) ≤ t2.2 then if h1 : Int.toNat t2.2 < ByteArray.size t2.1 then Option.bind (F_impl_within ((Go.IntKind.wrap .i64 ((UInt8.toNat (ByteArray.get t2.1 (Int.toNat t2.2) h1) : Nat) : Int)), (97 : Int), (122 : Int))) fun r2 => Option.bind (bif (!r2) then if (0 : Int) ≤ t2.2 then if h4 : Int.toNat t2.2 < ByteArray.size t2.1 then Option.bind (F_impl_within ((Go.IntKind.wrap .i64 ((UInt8.toNat (ByteArray.get t2.1 (Int.toNat t2.2) h4) : Nat) : Int)), (48 : Int), (57 : Int))) fun r5 => some (!r5) else none else none else some false) fun u3 => bif u3 then k0 (t2.1, false) else again (t2.1, (Go.IntKind.wrap .i64 (t2.2 + (1 : Int)))) else none else none else k1 t2.1
noncomputable def L_impl_NameOk_2 {R : Type} (k0 : (ByteArray × Bool) → Option R) (k1 : ByteArray → Option R) (t : T_impl_NameOk_2) : Option R := iter (S_impl_NameOk_2 k0 k1) FUEL t
noncomputable def F_impl_NameOk (x : ByteArray) : Option (Bool) :=
  L_impl_NameOk_2 (fun x6 => some x6.2) (fun x7 => Option.bind (F_impl_within (((ByteArray.size x7 : Nat) : Int), (1 : Int), (6 : Int))) fun r8 => some r8) (x, (0 : Int))
noncomputable def f143B : Code := match Try.f143.body with
  | some c => c
  | none => .skip
noncomputable def f143K : C.Sem := tab [⟨85, F_impl_within⟩]
def f143h2_0 : List Sh := [.v .str, .dead, .dead, .v (.int .i64), .dead, .dead, .dead, .dead, .dead, .dead, .dead, .dead, .dead, .dead, .dead, .dead, .dead, .dead, .dead, .dead, .dead, .dead, .dead, .dead, .dead, .dead, .dead]
def f143o2_0 : List (Nat × OSh) := []
def f143e2_0 (t : ByteArray × Int) : St := mkS f143h2_0 f143o2_0 ((t.1, (), (), t.2, (), (), (), (), (), (), (), (), (), (), (), (), (), (), (), (), (), (), (), (), (), (), (), ()), ())
def f143g2_0 : List Sh := [.v .str, .dead, .v .bool, .dead, .dead, .dead, .dead, .dead, .dead, .dead, .dead, .dead, .dead, .dead, .dead, .dead, .dead, .dead, .dead, .dead, .dead, .dead, .dead, .dead, .dead, .dead, .dead]
def f143p2_0 : List (Nat × OSh) := []
def f143x2_0 (t : ByteArray × Bool) : St := mkS f143g2_0 f143p2_0 ((t.1, (), t.2, (), (), (), (), (), (), (), (), (), (), (), (), (), (), (), (), (), (), (), (), (), (), (), (), ()), ())
def f143g2_1 : List Sh := [.v .str, .dead, .dead, .dead, .dead, .dead, .dead, .dead, .dead, .dead, .dead, .dead, .dead, .dead, .dead, .dead, .dead, .dead, .dead, .dead, .dead, .dead, .dead, .dead, .dead, .dead, .dead]
def f143p2_1 : List (Nat × OSh) := []
def f143x2_1 (t : ByteArray) : St := mkS f143g2_1 f143p2_1 ((t, (), (), (), (), (), (), (), (), (), (), (), (), (), (), (), (), (), (), (), (), (), (), (), (), (), (), ()), ())
def f143u2_0 (s : St) : Option (ByteArray × Int) := (unS f143h2_0 f143o2_0 s).map fun v => (v.1.1, v.1.2.2.2.1)
theorem f143un2_0 : ∀ (s : St) (t : ByteArray × Int), f143u2_0 s = some t → f143e2_0 t = s := fun s v h => by
  obtain ⟨u, hu, rfl⟩ := Option.map_eq_some_iff.1 h
  exact mkS_un f143h2_0 f143o2_0 s u hu
def f143u2 : St → Option (ByteArray × Int) := f143u2_0
def f143e2 : (ByteArray × Int) → St := f143e2_0
theorem f143un2 : ∀ (s : St) (t : ByteArray × Int), f143u2 s = some t → f143e2 t = s := f143un2_0
noncomputable def f143P : Lp := fun i s {_R} κ => bif Nat.beq i 2 then (f143u2 s).bind fun t => L_impl_NameOk_2 (fun t => κ (none) (f143x2_0 t)) (fun t => κ (some 0) (f143x2_1 t)) t else none
noncomputable def f143c2 : Code := (loopsOf f143B).getD 0 .skip
theorem f143A2 : C.live 143 (firstRegion f143c2) = some ([0, 3, 17, 18, 19, 20, 21, 22], [0, 2]) := by kernel_rfl
theorem f143B2 {R : Type} (κ : Option Nat → St → Option R) (s : St) : f143P (firstRegion f143c2) s κ = (f143u2 s).bind fun t => iter (S_impl_NameOk_2 (fun t => κ (none) (f143x2_0 t)) (fun t => κ (some 0) (f143x2_1 t))) FUEL t := by kernel_rfl
theorem f143C2 {R : Type} (κ : Option Nat → St → Option R) (again : St → Option R) (t : T_impl_NameOk_2) : stepL C f143K f143P 143 f143c2 [0, 3, 17, 18, 19, 20, 21, 22] [0, 2] κ again (f143e2 t) = S_impl_NameOk_2 (fun t => κ (none) (f143x2_0 t)) (fun t => κ (some 0) (f143x2_1 t)) (fun t => again (f143e2 t)) t := by kernel_rfl
theorem f143ok2 : LoopOk C f143K f143P 143 f143c2 := loop_ok f143A2 f143e2 f143u2 f143un2 (fun {_R} κ => S_impl_NameOk_2 (fun t => κ (none) (f143x2_0 t)) (fun t => κ (some 0) (f143x2_1 t))) (fun {_R} κ s => f143B2 κ s) (fun {_R} κ again t => f143C2 κ again t)
theorem k143 : Contract C Try.prog f143K := contract_tab _ (fun p hp => by
    simp only [List.mem_cons, List.mem_nil_iff, or_false] at hp
    rcases hp with rfl
    · exact ok85)
theorem ev143 (x : ByteArray) : evalB C f143K f143P 143 Try.f143 f143B ⟨[.v false [.str] [false]], [⟨false, [.bool], [false]⟩]⟩ [.str] [.bool] x = F_impl_NameOk x := by kernel_rfl
theorem ok143 : ContractAt C Try.prog 143 F_impl_NameOk := fn_sound (lp := f143P) tok mixed k143 (fn := Try.f143) (c := f143B) (sg := ⟨[.v false [.str] [false]], [⟨false, [.bool], [false]⟩]⟩) Try.func143 (by decide) (by kernel_rfl) (by kernel_rfl) (by kernel_rfl) (fun c' hc' => by
    rw [show loopsOf f143B = [f143c2] by kernel_rfl] at hc'
    simp only [List.mem_cons, List.mem_nil_iff, or_false] at hc'
    rcases hc' with rfl
    · exact f143ok2) (by decide) (by decide) (fun x y h => (ev143 x).trans h)

/-! ### 109: impl.OpOk -/
noncomputable def F_impl_OpOk (x : Int × ByteArray × ByteArray × Int × Int) : Option (Bool) :=
  Option.bind (F_impl_within (x.1, (1 : Int), (9 : Int))) fun r1 => Option.bind (bif (!r1) then some true else Option.bind (F_impl_isWord x.2.2.2.1) fun r3 => some (!r3)) fun u2 => Option.bind (bif u2 then some true else Option.bind (F_impl_isWord x.2.2.2.2) fun r5 => some (!r5)) fun u4 => bif u4 then some false else bif (decide (x.1 ≤ (6 : Int))) then Option.bind (F_impl_NameOk x.2.1) fun r6 => bif (x.1 == (2 : Int)) then Option.bind (F_impl_NameOk x.2.2.1) fun r7 => bif (x.1 == (2 : Int)) then Option.bind (bif (x.2.2.2.1 == (0 : Int)) then some (decide (x.2.2.2.2 ≤ (1 : Int))) else some false) fun u8 => Option.bind (bif r6 then some r7 else some false) fun u9 => Option.bind (bif u9 then some u8 else some false) fun u10 => some u10 else bif (x.1 == (3 : Int)) then bif (x.1 == (3 : Int)) then Option.bind (bif (x.2.2.2.1 == (0 : Int)) then some (x.2.2.2.2 == (0 : Int)) else some false) fun u11 => Option.bind (bif r6 then some r7 else some false) fun u12 => Option.bind (bif u12 then some u11 else some false) fun u13 => some u13 else bif (x.1 == (4 : Int)) then Option.bind (bif r6 then some r7 else some false) fun u14 => Option.bind (bif u14 then some true else some false) fun u15 => some u15 else Option.bind (bif r6 then some r7 else some false) fun u16 => Option.bind (bif u16 then some (x.2.2.2.2 == (0 : Int)) else some false) fun u17 => some u17 else bif (x.1 == (7 : Int)) then Option.bind (bif (x.2.2.2.1 == (0 : Int)) then some (x.2.2.2.2 == (0 : Int)) else some false) fun u18 => Option.bind (bif r6 then some r7 else some false) fun u19 => Option.bind (bif u19 then some u18 else some false) fun u20 => some u20 else bif (x.1 == (4 : Int)) then Option.bind (bif r6 then some r7 else some false) fun u21 => Option.bind (bif u21 then some true else some false) fun u22 => some u22 else Option.bind (bif r6 then some r7 else some false) fun u23 => Option.bind (bif u23 then some (x.2.2.2.2 == (0 : Int)) else some false) fun u24 => some u24 else bif (x.1 == (2 : Int)) then Option.bind (bif (x.2.2.2.1 == (0 : Int)) then some (decide (x.2.2.2.2 ≤ (1 : Int))) else some false) fun u25 => Option.bind (bif r6 then some ((ByteArray.toList x.2.2.1) == (ByteArray.toList ({ data := #[] }))) else some false) fun u26 => Option.bind (bif u26 then some u25 else some false) fun u27 => some u27 else bif (x.1 == (3 : Int)) then bif (x.1 == (3 : Int)) then Option.bind (bif (x.2.2.2.1 == (0 : Int)) then some (x.2.2.2.2 == (0 : Int)) else some false) fun u28 => Option.bind (bif r6 then some ((ByteArray.toList x.2.2.1) == (ByteArray.toList ({ data := #[] }))) else some false) fun u29 => Option.bind (bif u29 then some u28 else some false) fun u30 => some u30 else bif (x.1 == (4 : Int)) then Option.bind (bif r6 then some ((ByteArray.toList x.2.2.1) == (ByteArray.toList ({ data := #[] }))) else some false) fun u31 => Option.bind (bif u31 then some true else some false) fun u32 => some u32 else Option.bind (bif r6 then some ((ByteArray.toList x.2.2.1) == (ByteArray.toList ({ data := #[] }))) else some false) fun u33 => Option.bind (bif u33 then some (x.2.2.2.2 == (0 : Int)) else some false) fun u34 => some u34 else bif (x.1 == (7 : Int)) then Option.bind (bif (x.2.2.2.1 == (0 : Int)) then some (x.2.2.2.2 == (0 : Int)) else some false) fun u35 => Option.bind (bif r6 then some ((ByteArray.toList x.2.2.1) == (ByteArray.toList ({ data := #[] }))) else some false) fun u36 => Option.bind (bif u36 then some u35 else some false) fun u37 => some u37 else bif (x.1 == (4 : Int)) then Option.bind (bif r6 then some ((ByteArray.toList x.2.2.1) == (ByteArray.toList ({ data := #[] }))) else some false) fun u38 => Option.bind (bif u38 then some true else some false) fun u39 => some u39 else Option.bind (bif r6 then some ((ByteArray.toList x.2.2.1) == (ByteArray.toList ({ data := #[] }))) else some false) fun u40 => Option.bind (bif u40 then some (x.2.2.2.2 == (0 : Int)) else some false) fun u41 => some u41 else bif (x.1 == (2 : Int)) then Option.bind (F_impl_NameOk x.2.2.1) fun r42 => bif (x.1 == (2 : Int)) then Option.bind (bif (x.2.2.2.1 == (0 : Int)) then some (decide (x.2.2.2.2 ≤ (1 : Int))) else some false) fun u43 => Option.bind (bif ((ByteArray.toList x.2.1) == (ByteArray.toList ({ data := #[] }))) then some r42 else some false) fun u44 => Option.bind (bif u44 then some u43 else some false) fun u45 => some u45 else bif (x.1 == (3 : Int)) then bif (x.1 == (3 : Int)) then Option.bind (bif (x.2.2.2.1 == (0 : Int)) then some (x.2.2.2.2 == (0 : Int)) else some false) fun u46 => Option.bind (bif ((ByteArray.toList x.2.1) == (ByteArray.toList ({ data := #[] }))) then some r42 else some false) fun u47 => Option.bind (bif u47 then some u46 else some false) fun u48 => some u48 else bif (x.1 == (4 : Int)) then Option.bind (bif ((ByteArray.toList x.2.1) == (ByteArray.toList ({ data := #[] }))) then some r42 else some false) fun u49 => Option.bind (bif u49 then some true else some false) fun u50 => some u50 else Option.bind (bif ((ByteArray.toList x.2.1) == (ByteArray.toList ({ data := #[] }))) then some r42 else some false) fun u51 => Option.bind (bif u51 then some (x.2.2.2.2 == (0 : Int)) else some false) fun u52 => some u52 else bif (x.1 == (7 : Int)) then Option.bind (bif (x.2.2.2.1 == (0 : Int)) then some (x.2.2.2.2 == (0 : Int)) else some false) fun u53 => Option.bind (bif ((ByteArray.toList x.2.1) == (ByteArray.toList ({ data := #[] }))) then some r42 else some false) fun u54 => Option.bind (bif u54 then some u53 else some false) fun u55 => some u55 else bif (x.1 == (4 : Int)) then Option.bind (bif ((ByteArray.toList x.2.1) == (ByteArray.toList ({ data := #[] }))) then some r42 else some false) fun u56 => Option.bind (bif u56 then some true else some false) fun u57 => some u57 else Option.bind (bif ((ByteArray.toList x.2.1) == (ByteArray.toList ({ data := #[] }))) then some r42 else some false) fun u58 => Option.bind (bif u58 then some (x.2.2.2.2 == (0 : Int)) else some false) fun u59 => some u59 else bif (x.1 == (2 : Int)) then Option.bind (bif (x.2.2.2.1 == (0 : Int)) then some (decide (x.2.2.2.2 ≤ (1 : Int))) else some false) fun u60 => Option.bind (bif ((ByteArray.toList x.2.1) == (ByteArray.toList ({ data := #[] }))) then some ((ByteArray.toList x.2.2.1) == (ByteArray.toList ({ data := #[] }))) else some false) fun u61 => Option.bind (bif u61 then some u60 else some false) fun u62 => some u62 else bif (x.1 == (3 : Int)) then bif (x.1 == (3 : Int)) then Option.bind (bif (x.2.2.2.1 == (0 : Int)) then some (x.2.2.2.2 == (0 : Int)) else some false) fun u63 => Option.bind (bif ((ByteArray.toList x.2.1) == (ByteArray.toList ({ data := #[] }))) then some ((ByteArray.toList x.2.2.1) == (ByteArray.toList ({ data := #[] }))) else some false) fun u64 => Option.bind (bif u64 then some u63 else some false) fun u65 => some u65 else bif (x.1 == (4 : Int)) then Option.bind (bif ((ByteArray.toList x.2.1) == (ByteArray.toList ({ data := #[] }))) then some ((ByteArray.toList x.2.2.1) == (ByteArray.toList ({ data := #[] }))) else some false) fun u66 => Option.bind (bif u66 then some true else some false) fun u67 => some u67 else Option.bind (bif ((ByteArray.toList x.2.1) == (ByteArray.toList ({ data := #[] }))) then some ((ByteArray.toList x.2.2.1) == (ByteArray.toList ({ data := #[] }))) else some false) fun u68 => Option.bind (bif u68 then some (x.2.2.2.2 == (0 : Int)) else some false) fun u69 => some u69 else bif (x.1 == (7 : Int)) then Option.bind (bif (x.2.2.2.1 == (0 : Int)) then some (x.2.2.2.2 == (0 : Int)) else some false) fun u70 => Option.bind (bif ((ByteArray.toList x.2.1) == (ByteArray.toList ({ data := #[] }))) then some ((ByteArray.toList x.2.2.1) == (ByteArray.toList ({ data := #[] }))) else some false) fun u71 => Option.bind (bif u71 then some u70 else some false) fun u72 => some u72 else bif (x.1 == (4 : Int)) then Option.bind (bif ((ByteArray.toList x.2.1) == (ByteArray.toList ({ data := #[] }))) then some ((ByteArray.toList x.2.2.1) == (ByteArray.toList ({ data := #[] }))) else some false) fun u73 => Option.bind (bif u73 then some true else some false) fun u74 => some u74 else Option.bind (bif ((ByteArray.toList x.2.1) == (ByteArray.toList ({ data := #[] }))) then some ((ByteArray.toList x.2.2.1) == (ByteArray.toList ({ data := #[] }))) else some false) fun u75 => Option.bind (bif u75 then some (x.2.2.2.2 == (0 : Int)) else some false) fun u76 => some u76
noncomputable def f109B : Code := match Try.f109.body with
  | some c => c
  | none => .skip
noncomputable def f109K : C.Sem := tab [⟨85, F_impl_within⟩, ⟨142, F_impl_isWord⟩, ⟨143, F_impl_NameOk⟩]
noncomputable def f109P : Lp := fun i s {_R} κ => none
theorem k109 : Contract C Try.prog f109K := contract_tab _ (fun p hp => by
    simp only [List.mem_cons, List.mem_nil_iff, or_false] at hp
    rcases hp with rfl | rfl | rfl
    · exact ok85
    · exact ok142
    · exact ok143)
theorem ev109 (x : Int × ByteArray × ByteArray × Int × Int) : evalB C f109K f109P 109 Try.f109 f109B ⟨[.v true [(.int .i64), .str, .str, (.int .i64), (.int .i64)] [false, false, false, false, false]], [⟨false, [.bool], [false]⟩]⟩ [(.int .i64), .str, .str, (.int .i64), (.int .i64)] [.bool] x = F_impl_OpOk x := by kernel_rfl
theorem ok109 : ContractAt C Try.prog 109 F_impl_OpOk := fn_sound (lp := f109P) tok mixed k109 (fn := Try.f109) (c := f109B) (sg := ⟨[.v true [(.int .i64), .str, .str, (.int .i64), (.int .i64)] [false, false, false, false, false]], [⟨false, [.bool], [false]⟩]⟩) Try.func109 (by decide) (by kernel_rfl) (by kernel_rfl) (by kernel_rfl) (fun c' hc' => by
    rw [show loopsOf f109B = [] by kernel_rfl] at hc'
    cases hc') (by decide) (by decide) (fun x y h => (ev109 x).trans h)

/-! ### 48: impl.EntOk -/
noncomputable def F_impl_EntOk (x : Int × Int × ByteArray × ByteArray × Int × Int) : Option (Bool) :=
  Option.bind (F_impl_within (x.1, (1 : Int), (60000 : Int))) fun r1 => Option.bind (bif r1 then Option.bind (F_impl_OpOk (x.2.1, x.2.2.1, x.2.2.2.1, x.2.2.2.2.1, x.2.2.2.2.2)) fun r3 => some r3 else some false) fun u2 => some u2
noncomputable def f48B : Code := match Try.f48.body with
  | some c => c
  | none => .skip
noncomputable def f48K : C.Sem := tab [⟨85, F_impl_within⟩, ⟨109, F_impl_OpOk⟩]
noncomputable def f48P : Lp := fun i s {_R} κ => none
theorem k48 : Contract C Try.prog f48K := contract_tab _ (fun p hp => by
    simp only [List.mem_cons, List.mem_nil_iff, or_false] at hp
    rcases hp with rfl | rfl
    · exact ok85
    · exact ok109)
theorem ev48 (x : Int × Int × ByteArray × ByteArray × Int × Int) : evalB C f48K f48P 48 Try.f48 f48B ⟨[.v true [(.int .i64), (.int .i64), .str, .str, (.int .i64), (.int .i64)] [false, false, false, false, false, false]], [⟨false, [.bool], [false]⟩]⟩ [(.int .i64), (.int .i64), .str, .str, (.int .i64), (.int .i64)] [.bool] x = F_impl_EntOk x := by kernel_rfl
theorem ok48 : ContractAt C Try.prog 48 F_impl_EntOk := fn_sound (lp := f48P) tok mixed k48 (fn := Try.f48) (c := f48B) (sg := ⟨[.v true [(.int .i64), (.int .i64), .str, .str, (.int .i64), (.int .i64)] [false, false, false, false, false, false]], [⟨false, [.bool], [false]⟩]⟩) Try.func48 (by decide) (by kernel_rfl) (by kernel_rfl) (by kernel_rfl) (fun c' hc' => by
    rw [show loopsOf f48B = [] by kernel_rfl] at hc'
    cases hc') (by decide) (by decide) (fun x y h => (ev48 x).trans h)

/-! ### 70: impl.Crc -/
abbrev T_impl_Crc_7 : Type := Int × List E_u8 × Int × Int × Int
noncomputable def S_impl_Crc_7 {R : Type} (k0 : (Int × List E_u8 × Int × Int) → Option R) (again : T_impl_Crc_7 → Option R) (t7 : T_impl_Crc_7) : Option R :=
  bif (decide (t7.2.2.2.2 < (8 : Int))) then bif ((Int.tmod t7.1 (2 : Int)) == (1 : Int)) then again ((Go.bits .xor .i64 (Go.IntKind.wrap .i64 (Int.tdiv t7.1 (2 : Int))) (2197175160 : Int)), t7.2.1, t7.2.2.1, t7.2.2.2.1, (Go.IntKind.wrap .i64 (t7.2.2.2.2 + (1 : Int)))) else again ((Go.IntKind.wrap .i64 (Int.tdiv t7.1 (2 : Int))), t7.2.1, t7.2.2.1, t7.2.2.2.1, (Go.IntKind.wrap .i64 (t7.2.2.2.2 + (1 : Int)))) else k0 (t7.1, t7.2.1, t7.2.2.1, t7.2.2.2.1)
noncomputable def L_impl_Crc_7 {R : Type} (k0 : (Int × List E_u8 × Int × Int) → Option R) (t : T_impl_Crc_7) : Option R := iter (S_impl_Crc_7 k0) FUEL t
abbrev T_impl_Crc_3 : Type := Int × List E_u8 × Int × Int
noncomputable def S_impl_Crc_3 {R : Type} (k0 : Int → Option R) (again : T_impl_Crc_3 → Option R) (t3 : T_impl_Crc_3) : Option R :=
  bif (decide (t3.2.2.2 < t3.2.2.1)) then if (0 : Int) ≤ t3.2.2.2 then if t3.2.2.2 < ((List.length t3.2.1 : Nat) : Int) then L_impl_Crc_7 (fun x1 => again (x1.1, x1.2.1, x1.2.2.1, (Go.IntKind.wrap .i64 (x1.2.2.2 + (1 : Int))))) ((Go.bits .xor .i64 t3.1 (Go.IntKind.wrap .i64 (rd_u8 t3.2.1 t3.2.2.2))), t3.2.1, t3.2.2.1, t3.2.2.2, (0 : Int)) else none else none else k0 t3.1
noncomputable def L_impl_Crc_3 {R : Type} (k0 : Int → Option R) (t : T_impl_Crc_3) : Option R := iter (S_impl_Crc_3 k0) FUEL t
noncomputable def F_impl_Crc (x : List E_u8) : Option (Int) :=
  L_impl_Crc_3 (fun x2 => some (Go.bits .xor .i64 x2 (4294967295 : Int))) ((4294967295 : Int), x, ((List.length x : Nat) : Int), (0 : Int))
noncomputable def f70B : Code := match Try.f70.body with
  | some c => c
  | none => .skip
noncomputable def f70K : C.Sem := tab []
def f70h7_0 : List Sh := [.dead, .dead, .dead, .v (.int .i64), .dead, .dead, .dead, .v (.sl 5 ts_u8), .v (.int .i64), .v (.int .i64), .dead, .dead, .dead, .dead, .dead, .dead, .dead, .v (.int .i64), .dead, .dead, .dead, .dead, .dead, .dead, .dead, .dead, .dead, .dead, .dead, .dead, .dead]
def f70o7_0 : List (Nat × OSh) := []
def f70e7_0 (t : Int × List E_u8 × Int × Int × Int) : St := mkS f70h7_0 f70o7_0 (((), (), (), t.1, (), (), (), t.2.1, t.2.2.1, t.2.2.2.1, (), (), (), (), (), (), (), t.2.2.2.2, (), (), (), (), (), (), (), (), (), (), (), (), (), ()), ())
def f70g7_0 : List Sh := [.dead, .dead, .dead, .v (.int .i64), .dead, .dead, .dead, .v (.sl 5 ts_u8), .v (.int .i64), .v (.int .i64), .dead, .dead, .dead, .dead, .dead, .dead, .dead, .dead, .dead, .dead, .dead, .dead, .dead, .dead, .dead, .dead, .dead, .dead, .dead, .dead, .dead]
def f70p7_0 : List (Nat × OSh) := []
def f70x7_0 (t : Int × List E_u8 × Int × Int) : St := mkS f70g7_0 f70p7_0 (((), (), (), t.1, (), (), (), t.2.1, t.2.2.1, t.2.2.2, (), (), (), (), (), (), (), (), (), (), (), (), (), (), (), (), (), (), (), (), (), ()), ())
def f70u7_0 (s : St) : Option (Int × List E_u8 × Int × Int × Int) := (unS f70h7_0 f70o7_0 s).map fun v => (v.1.2.2.2.1, v.1.2.2.2.2.2.2.2.1, v.1.2.2.2.2.2.2.2.2.1, v.1.2.2.2.2.2.2.2.2.2.1, v.1.2.2.2.2.2.2.2.2.2.2.2.2.2.2.2.2.2.1)
theorem f70un7_0 : ∀ (s : St) (t : Int × List E_u8 × Int × Int × Int), f70u7_0 s = some t → f70e7_0 t = s := fun s v h => by
  obtain ⟨u, hu, rfl⟩ := Option.map_eq_some_iff.1 h
  exact mkS_un f70h7_0 f70o7_0 s u hu
def f70u7 : St → Option (Int × List E_u8 × Int × Int × Int) := f70u7_0
def f70e7 : (Int × List E_u8 × Int × Int × Int) → St := f70e7_0
theorem f70un7 : ∀ (s : St) (t : Int × List E_u8 × Int × Int × Int), f70u7 s = some t → f70e7 t = s := f70un7_0
def f70h3_0 : List Sh := [.dead, .dead, .dead, .v (.int .i64), .dead, .dead, .dead, .v (.sl 5 ts_u8), .v (.int .i64), .v (.int .i64), .dead, .dead, .dead, .dead, .dead, .dead, .dead, .dead, .dead, .dead, .dead, .dead, .dead, .dead, .dead, .dead, .dead, .dead, .dead, .dead, .dead]
def f70o3_0 : List (Nat × OSh) := []
def f70e3_0 (t : Int × List E_u8 × Int × Int) : St := mkS f70h3_0 f70o3_0 (((), (), (), t.1, (), (), (), t.2.1, t.2.2.1, t.2.2.2, (), (), (), (), (), (), (), (), (), (), (), (), (), (), (), (), (), (), (), (), (), ()), ())
def f70g3_0 : List Sh := [.dead, .dead, .dead, .v (.int .i64), .dead, .dead, .dead, .dead, .dead, .dead, .dead, .dead, .dead, .dead, .dead, .dead, .dead, .dead, .dead, .dead, .dead, .dead, .dead, .dead, .dead, .dead, .dead, .dead, .dead, .dead, .dead]
def f70p3_0 : List (Nat × OSh) := []
def f70x3_0 (t : Int) : St := mkS f70g3_0 f70p3_0 (((), (), (), t, (), (), (), (), (), (), (), (), (), (), (), (), (), (), (), (), (), (), (), (), (), (), (), (), (), (), (), ()), ())
def f70u3_0 (s : St) : Option (Int × List E_u8 × Int × Int) := (unS f70h3_0 f70o3_0 s).map fun v => (v.1.2.2.2.1, v.1.2.2.2.2.2.2.2.1, v.1.2.2.2.2.2.2.2.2.1, v.1.2.2.2.2.2.2.2.2.2.1)
theorem f70un3_0 : ∀ (s : St) (t : Int × List E_u8 × Int × Int), f70u3_0 s = some t → f70e3_0 t = s := fun s v h => by
  obtain ⟨u, hu, rfl⟩ := Option.map_eq_some_iff.1 h
  exact mkS_un f70h3_0 f70o3_0 s u hu
def f70u3 : St → Option (Int × List E_u8 × Int × Int) := f70u3_0
def f70e3 : (Int × List E_u8 × Int × Int) → St := f70e3_0
theorem f70un3 : ∀ (s : St) (t : Int × List E_u8 × Int × Int), f70u3 s = some t → f70e3 t = s := f70un3_0
noncomputable def f70P : Lp := fun i s {_R} κ => bif Nat.beq i 3 then (f70u3 s).bind fun t => L_impl_Crc_3 (fun t => κ (some 0) (f70x3_0 t)) t else bif Nat.beq i 7 then (f70u7 s).bind fun t => L_impl_Crc_7 (fun t => κ (some 2) (f70x7_0 t)) t else none
noncomputable def f70c7 : Code := (loopsOf f70B).getD 1 .skip
theorem f70A7 : C.live 70 (firstRegion f70c7) = some ([3, 7, 8, 9, 17], [3, 7, 8, 9]) := by kernel_rfl
theorem f70B7 {R : Type} (κ : Option Nat → St → Option R) (s : St) : f70P (firstRegion f70c7) s κ = (f70u7 s).bind fun t => iter (S_impl_Crc_7 (fun t => κ (some 2) (f70x7_0 t))) FUEL t := by kernel_rfl
theorem f70C7 {R : Type} (κ : Option Nat → St → Option R) (again : St → Option R) (t : T_impl_Crc_7) : stepL C f70K f70P 70 f70c7 [3, 7, 8, 9, 17] [3, 7, 8, 9] κ again (f70e7 t) = S_impl_Crc_7 (fun t => κ (some 2) (f70x7_0 t)) (fun t => again (f70e7 t)) t := by kernel_rfl
theorem f70ok7 : LoopOk C f70K f70P 70 f70c7 := loop_ok f70A7 f70e7 f70u7 f70un7 (fun {_R} κ => S_impl_Crc_7 (fun t => κ (some 2) (f70x7_0 t))) (fun {_R} κ s => f70B7 κ s) (fun {_R} κ again t => f70C7 κ again t)
noncomputable def f70c3 : Code := (loopsOf f70B).getD 0 .skip
theorem f70A3 : C.live 70 (firstRegion f70c3) = some ([3, 7, 8, 9], [3]) := by kernel_rfl
theorem f70B3 {R : Type} (κ : Option Nat → St → Option R) (s : St) : f70P (firstRegion f70c3) s κ = (f70u3 s).bind fun t => iter (S_impl_Crc_3 (fun t => κ (some 0) (f70x3_0 t))) FUEL t := by kernel_rfl
theorem f70C3 {R : Type} (κ : Option Nat → St → Option R) (again : St → Option R) (t : T_impl_Crc_3) : stepL C f70K f70P 70 f70c3 [3, 7, 8, 9] [3] κ again (f70e3 t) = S_impl_Crc_3 (fun t => κ (some 0) (f70x3_0 t)) (fun t => again (f70e3 t)) t := by kernel_rfl
theorem f70ok3 : LoopOk C f70K f70P 70 f70c3 := loop_ok f70A3 f70e3 f70u3 f70un3 (fun {_R} κ => S_impl_Crc_3 (fun t => κ (some 0) (f70x3_0 t))) (fun {_R} κ s => f70B3 κ s) (fun {_R} κ again t => f70C3 κ again t)
theorem k70 : Contract C Try.prog f70K := contract_tab _ (fun p hp => by cases hp)
theorem ev70 (x : List E_u8) : evalB C f70K f70P 70 Try.f70 f70B ⟨[.v false [(.sl 5 ts_u8)] [false]], [⟨false, [(.int .i64)], [false]⟩]⟩ [(.sl 5 ts_u8)] [(.int .i64)] x = F_impl_Crc x := by kernel_rfl
theorem ok70 : ContractAt C Try.prog 70 F_impl_Crc := fn_sound (lp := f70P) tok mixed k70 (fn := Try.f70) (c := f70B) (sg := ⟨[.v false [(.sl 5 ts_u8)] [false]], [⟨false, [(.int .i64)], [false]⟩]⟩) Try.func70 (by decide) (by kernel_rfl) (by kernel_rfl) (by kernel_rfl) (fun c' hc' => by
    rw [show loopsOf f70B = [f70c3, f70c7] by kernel_rfl] at hc'
    simp only [List.mem_cons, List.mem_nil_iff, or_false] at hc'
    rcases hc' with rfl | rfl
    · exact f70ok3
    · exact f70ok7) (by decide) (by decide) (fun x y h => (ev70 x).trans h)

/-! ### 133: impl.GetW -/
noncomputable def F_impl_GetW (x : List E_u8 × Int) : Option (Int × Int × Bool) :=
  Option.bind (bif (decide (x.2 < (0 : Int))) then some true else some (decide (x.2 > (Go.IntKind.wrap .i64 (((List.length x.1 : Nat) : Int) - (2 : Int)))))) fun u1 => bif u1 then some ((0 : Int), (0 : Int), false) else if (0 : Int) ≤ x.2 then if x.2 < ((List.length x.1 : Nat) : Int) then if (0 : Int) ≤ (Go.IntKind.wrap .i64 (x.2 + (1 : Int))) then if (Go.IntKind.wrap .i64 (x.2 + (1 : Int))) < ((List.length x.1 : Nat) : Int) then some ((Go.bits .or .i64 (Go.IntKind.wrap .i64 ((Go.IntKind.wrap .i64 (rd_u8 x.1 x.2)) * 2 ^ (min (Int.toNat (8 : Int)) (Go.IntKind.bits .i64)))) (Go.IntKind.wrap .i64 (rd_u8 x.1 (Go.IntKind.wrap .i64 (x.2 + (1 : Int)))))), (Go.IntKind.wrap .i64 (x.2 + (2 : Int))), true) else none else none else none else none
noncomputable def f133B : Code := match Try.f133.body with
  | some c => c
  | none => .skip
noncomputable def f133K : C.Sem := tab []
noncomputable def f133P : Lp := fun i s {_R} κ => none
theorem k133 : Contract C Try.prog f133K := contract_tab _ (fun p hp => by cases hp)
theorem ev133 (x : List E_u8 × Int) : evalB C f133K f133P 133 Try.f133 f133B ⟨[.v false [(.sl 5 ts_u8)] [false], .v false [(.int .i64)] [false]], [⟨false, [(.int .i64)], [false]⟩, ⟨false, [(.int .i64)], [false]⟩, ⟨false, [.bool], [false]⟩]⟩ [(.sl 5 ts_u8), (.int .i64)] [(.int .i64), (.int .i64), .bool] x = F_impl_GetW x := by kernel_rfl
theorem ok133 : ContractAt C Try.prog 133 F_impl_GetW := fn_sound (lp := f133P) tok mixed k133 (fn := Try.f133) (c := f133B) (sg := ⟨[.v false [(.sl 5 ts_u8)] [false], .v false [(.int .i64)] [false]], [⟨false, [(.int .i64)], [false]⟩, ⟨false, [(.int .i64)], [false]⟩, ⟨false, [.bool], [false]⟩]⟩) Try.func133 (by decide) (by kernel_rfl) (by kernel_rfl) (by kernel_rfl) (fun c' hc' => by
    rw [show loopsOf f133B = [] by kernel_rfl] at hc'
    cases hc') (by decide) (by decide) (fun x y h => (ev133 x).trans h)

/-! ### 79: impl.reader).word -/
noncomputable def F_impl_reader_word (x : List E_u8 × Int × Bool) : Option (Int × List E_u8 × Int × Bool) :=
  Option.bind (F_impl_GetW (x.1, x.2.1)) fun r1 => Option.bind (bif x.2.2 then some true else some (!r1.2.2)) fun u2 => bif u2 then some ((0 : Int), x.1, x.2.1, true) else some (r1.1, x.1, r1.2.1, x.2.2)
noncomputable def f79B : Code := match Try.f79.body with
  | some c => c
  | none => .skip
noncomputable def f79K : C.Sem := tab [⟨133, F_impl_GetW⟩]
noncomputable def f79P : Lp := fun i s {_R} κ => none
theorem k79 : Contract C Try.prog f79K := contract_tab _ (fun p hp => by
    simp only [List.mem_cons, List.mem_nil_iff, or_false] at hp
    rcases hp with rfl
    · exact ok133)
theorem ev79 (x : List E_u8 × Int × Bool) : evalB C f79K f79P 79 Try.f79 f79B ⟨[.p [(.sl 5 ts_u8), (.int .i64), .bool] [false, false, false]], [⟨false, [(.int .i64)], [false]⟩]⟩ [(.sl 5 ts_u8), (.int .i64), .bool] [(.int .i64), (.sl 5 ts_u8), (.int .i64), .bool] x = F_impl_reader_word x := by kernel_rfl
theorem ok79 : ContractAt C Try.prog 79 F_impl_reader_word := fn_sound (lp := f79P) tok mixed k79 (fn := Try.f79) (c := f79B) (sg := ⟨[.p [(.sl 5 ts_u8), (.int .i64), .bool] [false, false, false]], [⟨false, [(.int .i64)], [false]⟩]⟩) Try.func79 (by decide) (by kernel_rfl) (by kernel_rfl) (by kernel_rfl) (fun c' hc' => by
    rw [show loopsOf f79B = [] by kernel_rfl] at hc'
    cases hc') (by decide) (by decide) (fun x y h => (ev79 x).trans h)

/-! ### 81: impl.reader).four -/
noncomputable def F_impl_reader_four (x : List E_u8 × Int × Bool) : Option (Int × List E_u8 × Int × Bool) :=
  Option.bind (F_impl_reader_word (x.1, x.2.1, x.2.2)) fun r1 => Option.bind (F_impl_reader_word (r1.2.1, r1.2.2.1, r1.2.2.2)) fun r2 => some ((Go.bits .or .i64 (Go.IntKind.wrap .i64 (r1.1 * 2 ^ (min (Int.toNat (16 : Int)) (Go.IntKind.bits .i64)))) r2.1), r2.2.1, r2.2.2.1, r2.2.2.2)
noncomputable def f81B : Code := match Try.f81.body with
  | some c => c
  | none => .skip
noncomputable def f81K : C.Sem := tab [⟨79, F_impl_reader_word⟩]
noncomputable def f81P : Lp := fun i s {_R} κ => none
theorem k81 : Contract C Try.prog f81K := contract_tab _ (fun p hp => by
    simp only [List.mem_cons, List.mem_nil_iff, or_false] at hp
    rcases hp with rfl
    · exact ok79)
theorem ev81 (x : List E_u8 × Int × Bool) : evalB C f81K f81P 81 Try.f81 f81B ⟨[.p [(.sl 5 ts_u8), (.int .i64), .bool] [false, false, false]], [⟨false, [(.int .i64)], [false]⟩]⟩ [(.sl 5 ts_u8), (.int .i64), .bool] [(.int .i64), (.sl 5 ts_u8), (.int .i64), .bool] x = F_impl_reader_four x := by kernel_rfl
theorem ok81 : ContractAt C Try.prog 81 F_impl_reader_four := fn_sound (lp := f81P) tok mixed k81 (fn := Try.f81) (c := f81B) (sg := ⟨[.p [(.sl 5 ts_u8), (.int .i64), .bool] [false, false, false]], [⟨false, [(.int .i64)], [false]⟩]⟩) Try.func81 (by decide) (by kernel_rfl) (by kernel_rfl) (by kernel_rfl) (fun c' hc' => by
    rw [show loopsOf f81B = [] by kernel_rfl] at hc'
    cases hc') (by decide) (by decide) (fun x y h => (ev81 x).trans h)

/-! ### 82: impl.reader).done -/
noncomputable def F_impl_reader_done (x : List E_u8 × Int × Bool) : Option (Bool × List E_u8 × Int × Bool) :=
  Option.bind (bif (!x.2.2) then some (x.2.1 == ((List.length x.1 : Nat) : Int)) else some false) fun u1 => some (u1, x.1, x.2.1, x.2.2)
noncomputable def f82B : Code := match Try.f82.body with
  | some c => c
  | none => .skip
noncomputable def f82K : C.Sem := tab []
noncomputable def f82P : Lp := fun i s {_R} κ => none
theorem k82 : Contract C Try.prog f82K := contract_tab _ (fun p hp => by cases hp)
theorem ev82 (x : List E_u8 × Int × Bool) : evalB C f82K f82P 82 Try.f82 f82B ⟨[.p [(.sl 5 ts_u8), (.int .i64), .bool] [false, false, false]], [⟨false, [.bool], [false]⟩]⟩ [(.sl 5 ts_u8), (.int .i64), .bool] [.bool, (.sl 5 ts_u8), (.int .i64), .bool] x = F_impl_reader_done x := by kernel_rfl
theorem ok82 : ContractAt C Try.prog 82 F_impl_reader_done := fn_sound (lp := f82P) tok mixed k82 (fn := Try.f82) (c := f82B) (sg := ⟨[.p [(.sl 5 ts_u8), (.int .i64), .bool] [false, false, false]], [⟨false, [.bool], [false]⟩]⟩) Try.func82 (by decide) (by kernel_rfl) (by kernel_rfl) (by kernel_rfl) (fun c' hc' => by
    rw [show loopsOf f82B = [] by kernel_rfl] at hc'
    cases hc') (by decide) (by decide) (fun x y h => (ev82 x).trans h)

/-! ### 80: impl.reader).one -/
noncomputable def F_impl_reader_one (x : List E_u8 × Int × Bool) : Option (Int × List E_u8 × Int × Bool) :=
  Option.bind (bif x.2.2 then some true else some (decide (x.2.1 < (0 : Int)))) fun u1 => Option.bind (bif u1 then some true else some (decide (x.2.1 ≥ ((List.length x.1 : Nat) : Int)))) fun u2 => bif u2 then some ((0 : Int), x.1, x.2.1, true) else if (0 : Int) ≤ (Go.IntKind.wrap .i64 ((Go.IntKind.wrap .i64 (x.2.1 + (1 : Int))) - (1 : Int))) then if (Go.IntKind.wrap .i64 ((Go.IntKind.wrap .i64 (x.2.1 + (1 : Int))) - (1 : Int))) < ((List.length x.1 : Nat) : Int) then some ((Go.IntKind.wrap .i64 (rd_u8 x.1 (Go.IntKind.wrap .i64 ((Go.IntKind.wrap .i64 (x.2.1 + (1 : Int))) - (1 : Int))))), x.1, (Go.IntKind.wrap .i64 (x.2.1 + (1 : Int))), x.2.2) else none else none
noncomputable def f80B : Code := match Try.f80.body with
  | some c => c
  | none => .skip
noncomputable def f80K : C.Sem := tab []
noncomputable def f80P : Lp := fun i s {_R} κ => none
theorem k80 : Contract C Try.prog f80K := contract_tab _ (fun p hp => by cases hp)
theorem ev80 (x : List E_u8 × Int × Bool) : evalB C f80K f80P 80 Try.f80 f80B ⟨[.p [(.sl 5 ts_u8), (.int .i64), .bool] [false, false, false]], [⟨false, [(.int .i64)], [false]⟩]⟩ [(.sl 5 ts_u8), (.int .i64), .bool] [(.int .i64), (.sl 5 ts_u8), (.int .i64), .bool] x = F_impl_reader_one x := by kernel_rfl
theorem ok80 : ContractAt C Try.prog 80 F_impl_reader_one := fn_sound (lp := f80P) tok mixed k80 (fn := Try.f80) (c := f80B) (sg := ⟨[.p [(.sl 5 ts_u8), (.int .i64), .bool] [false, false, false]], [⟨false, [(.int .i64)], [false]⟩]⟩) Try.func80 (by decide) (by kernel_rfl) (by kernel_rfl) (by kernel_rfl) (fun c' hc' => by
    rw [show loopsOf f80B = [] by kernel_rfl] at hc'
    cases hc') (by decide) (by decide) (fun x y h => (ev80 x).trans h)

/-! ### 168: impl.GetText -/
noncomputable def F_impl_GetText (x : List E_u8 × Int) : Option (ByteArray × Int × Bool) :=
  Option.bind (F_impl_GetW (x.1, x.2)) fun r1 => Option.bind (bif (!r1.2.2) then some true else some (decide (r1.1 > (60 : Int)))) fun u2 => Option.bind (bif u2 then some true else some (decide (r1.1 > (Go.IntKind.wrap .i64 (((List.length x.1 : Nat) : Int) - r1.2.1))))) fun u3 => bif u3 then some ({ data := #[] }, (0 : Int), false) else if (0 : Int) ≤ r1.2.1 then if r1.2.1 ≤ (Go.IntKind.wrap .i64 (r1.2.1 + r1.1)) then if (Go.IntKind.wrap .i64 (r1.2.1 + r1.1)) ≤ ((List.length x.1 : Nat) : Int) then some ((textOf (List.drop (Int.toNat r1.2.1) (List.take (Int.toNat (Go.IntKind.wrap .i64 (r1.2.1 + r1.1))) x.1))), (Go.IntKind.wrap .i64 (r1.2.1 + r1.1)), true) else none else none else none
noncomputable def f168B : Code := match Try.f168.body with
  | some c => c
  | none => .skip
noncomputable def f168K : C.Sem := tab [⟨133, F_impl_GetW⟩]
noncomputable def f168P : Lp := fun i s {_R} κ => none
theorem k168 : Contract C Try.prog f168K := contract_tab _ (fun p hp => by
    simp only [List.mem_cons, List.mem_nil_iff, or_false] at hp
    rcases hp with rfl
    · exact ok133)
theorem ev168 (x : List E_u8 × Int) : evalB C f168K f168P 168 Try.f168 f168B ⟨[.v false [(.sl 5 ts_u8)] [false], .v false [(.int .i64)] [false]], [⟨false, [.str], [false]⟩, ⟨false, [(.int .i64)], [false]⟩, ⟨false, [.bool], [false]⟩]⟩ [(.sl 5 ts_u8), (.int .i64)] [.str, (.int .i64), .bool] x = F_impl_GetText x := by kernel_rfl
theorem ok168 : ContractAt C Try.prog 168 F_impl_GetText := fn_sound (lp := f168P) tok mixed k168 (fn := Try.f168) (c := f168B) (sg := ⟨[.v false [(.sl 5 ts_u8)] [false], .v false [(.int .i64)] [false]], [⟨false, [.str], [false]⟩, ⟨false, [(.int .i64)], [false]⟩, ⟨false, [.bool], [false]⟩]⟩) Try.func168 (by decide) (by kernel_rfl) (by kernel_rfl) (by kernel_rfl) (fun c' hc' => by
    rw [show loopsOf f168B = [] by kernel_rfl] at hc'
    cases hc') (by decide) (by decide) (fun x y h => (ev168 x).trans h)

/-! ### 135: impl.reader).text -/
noncomputable def F_impl_reader_text (x : List E_u8 × Int × Bool) : Option (ByteArray × List E_u8 × Int × Bool) :=
  Option.bind (F_impl_GetText (x.1, x.2.1)) fun r1 => Option.bind (bif x.2.2 then some true else some (!r1.2.2)) fun u2 => bif u2 then some ({ data := #[] }, x.1, x.2.1, true) else some (r1.1, x.1, r1.2.1, x.2.2)
noncomputable def f135B : Code := match Try.f135.body with
  | some c => c
  | none => .skip
noncomputable def f135K : C.Sem := tab [⟨168, F_impl_GetText⟩]
noncomputable def f135P : Lp := fun i s {_R} κ => none
theorem k135 : Contract C Try.prog f135K := contract_tab _ (fun p hp => by
    simp only [List.mem_cons, List.mem_nil_iff, or_false] at hp
    rcases hp with rfl
    · exact ok168)
theorem ev135 (x : List E_u8 × Int × Bool) : evalB C f135K f135P 135 Try.f135 f135B ⟨[.p [(.sl 5 ts_u8), (.int .i64), .bool] [false, false, false]], [⟨false, [.str], [false]⟩]⟩ [(.sl 5 ts_u8), (.int .i64), .bool] [.str, (.sl 5 ts_u8), (.int .i64), .bool] x = F_impl_reader_text x := by kernel_rfl
theorem ok135 : ContractAt C Try.prog 135 F_impl_reader_text := fn_sound (lp := f135P) tok mixed k135 (fn := Try.f135) (c := f135B) (sg := ⟨[.p [(.sl 5 ts_u8), (.int .i64), .bool] [false, false, false]], [⟨false, [.str], [false]⟩]⟩) Try.func135 (by decide) (by kernel_rfl) (by kernel_rfl) (by kernel_rfl) (fun c' hc' => by
    rw [show loopsOf f135B = [] by kernel_rfl] at hc'
    cases hc') (by decide) (by decide) (fun x y h => (ev135 x).trans h)

/-! ### 88: impl.reader).op -/
noncomputable def F_impl_reader_op (x : List E_u8 × Int × Bool) : Option (Int × ByteArray × ByteArray × Int × Int × List E_u8 × Int × Bool) :=
  Option.bind (F_impl_reader_one (x.1, x.2.1, x.2.2)) fun r1 => Option.bind (F_impl_reader_text (r1.2.1, r1.2.2.1, r1.2.2.2)) fun r2 => Option.bind (F_impl_reader_text (r2.2.1, r2.2.2.1, r2.2.2.2)) fun r3 => Option.bind (F_impl_reader_word (r3.2.1, r3.2.2.1, r3.2.2.2)) fun r4 => Option.bind (F_impl_reader_word (r4.2.1, r4.2.2.1, r4.2.2.2)) fun r5 => Option.bind (bif r5.2.2.2 then some true else Option.bind (F_impl_OpOk (r1.1, r2.1, r3.1, r4.1, r5.1)) fun r7 => some (!r7)) fun u6 => bif u6 then some ((0 : Int), (⟨#[]⟩ : ByteArray), (⟨#[]⟩ : ByteArray), (0 : Int), (0 : Int), r5.2.1, r5.2.2.1, true) else some (r1.1, r2.1, r3.1, r4.1, r5.1, r5.2.1, r5.2.2.1, r5.2.2.2)
noncomputable def f88B : Code := match Try.f88.body with
  | some c => c
  | none => .skip
noncomputable def f88K : C.Sem := tab [⟨79, F_impl_reader_word⟩, ⟨80, F_impl_reader_one⟩, ⟨109, F_impl_OpOk⟩, ⟨135, F_impl_reader_text⟩]
noncomputable def f88P : Lp := fun i s {_R} κ => none
theorem k88 : Contract C Try.prog f88K := contract_tab _ (fun p hp => by
    simp only [List.mem_cons, List.mem_nil_iff, or_false] at hp
    rcases hp with rfl | rfl | rfl | rfl
    · exact ok79
    · exact ok80
    · exact ok109
    · exact ok135)
theorem ev88 (x : List E_u8 × Int × Bool) : evalB C f88K f88P 88 Try.f88 f88B ⟨[.p [(.sl 5 ts_u8), (.int .i64), .bool] [false, false, false]], [⟨true, [(.int .i64), .str, .str, (.int .i64), (.int .i64)], [false, false, false, false, false]⟩]⟩ [(.sl 5 ts_u8), (.int .i64), .bool] [(.int .i64), .str, .str, (.int .i64), (.int .i64), (.sl 5 ts_u8), (.int .i64), .bool] x = F_impl_reader_op x := by kernel_rfl
theorem ok88 : ContractAt C Try.prog 88 F_impl_reader_op := fn_sound (lp := f88P) tok mixed k88 (fn := Try.f88) (c := f88B) (sg := ⟨[.p [(.sl 5 ts_u8), (.int .i64), .bool] [false, false, false]], [⟨true, [(.int .i64), .str, .str, (.int .i64), (.int .i64)], [false, false, false, false, false]⟩]⟩) Try.func88 (by decide) (by kernel_rfl) (by kernel_rfl) (by kernel_rfl) (fun c' hc' => by
    rw [show loopsOf f88B = [] by kernel_rfl] at hc'
    cases hc') (by decide) (by decide) (fun x y h => (ev88 x).trans h)

/-! ### 32: impl.GetEnt -/
noncomputable def F_impl_GetEnt (x : List E_u8) : Option (Int × Int × ByteArray × ByteArray × Int × Int × Bool) :=
  Option.bind (F_impl_reader_word (x, (0 : Int), false)) fun r1 => Option.bind (F_impl_reader_op (r1.2.1, r1.2.2.1, r1.2.2.2)) fun r2 => Option.bind (F_impl_reader_four (r2.2.2.2.2.2.1, r2.2.2.2.2.2.2.1, r2.2.2.2.2.2.2.2)) fun r3 => Option.bind (F_impl_reader_done (r3.2.1, r3.2.2.1, r3.2.2.2)) fun r4 => Option.bind (bif (!r4.1) then some true else Option.bind (F_impl_EntOk (r1.1, r2.1, r2.2.1, r2.2.2.1, r2.2.2.2.1, r2.2.2.2.2.1)) fun r6 => some (!r6)) fun u5 => Option.bind (bif u5 then some true else if (0 : Int) ≤ (0 : Int) then if (0 : Int) ≤ r2.2.2.2.2.2.2.1 then if r2.2.2.2.2.2.2.1 ≤ ((List.length x : Nat) : Int) then Option.bind (F_impl_Crc (List.drop (Int.toNat (0 : Int)) (List.take (Int.toNat r2.2.2.2.2.2.2.1) x))) fun r8 => some (r3.1 != r8) else none else none else none) fun u7 => bif u7 then some ((0 : Int), (0 : Int), (⟨#[]⟩ : ByteArray), (⟨#[]⟩ : ByteArray), (0 : Int), (0 : Int), false) else some (r1.1, r2.1, r2.2.1, r2.2.2.1, r2.2.2.2.1, r2.2.2.2.2.1, true)
noncomputable def f32B : Code := match Try.f32.body with
  | some c => c
  | none => .skip
noncomputable def f32K : C.Sem := tab [⟨48, F_impl_EntOk⟩, ⟨70, F_impl_Crc⟩, ⟨79, F_impl_reader_word⟩, ⟨81, F_impl_reader_four⟩, ⟨82, F_impl_reader_done⟩, ⟨88, F_impl_reader_op⟩]
noncomputable def f32P : Lp := fun i s {_R} κ => none
theorem k32 : Contract C Try.prog f32K := contract_tab _ (fun p hp => by
    simp only [List.mem_cons, List.mem_nil_iff, or_false] at hp
    rcases hp with rfl | rfl | rfl | rfl | rfl | rfl
    · exact ok48
    · exact ok70
    · exact ok79
    · exact ok81
    · exact ok82
    · exact ok88)
theorem ev32 (x : List E_u8) : evalB C f32K f32P 32 Try.f32 f32B ⟨[.v false [(.sl 5 ts_u8)] [false]], [⟨true, [(.int .i64), (.int .i64), .str, .str, (.int .i64), (.int .i64)], [false, false, false, false, false, false]⟩, ⟨false, [.bool], [false]⟩]⟩ [(.sl 5 ts_u8)] [(.int .i64), (.int .i64), .str, .str, (.int .i64), (.int .i64), .bool] x = F_impl_GetEnt x := by kernel_rfl
theorem ok32 : ContractAt C Try.prog 32 F_impl_GetEnt := fn_sound (lp := f32P) tok mixed k32 (fn := Try.f32) (c := f32B) (sg := ⟨[.v false [(.sl 5 ts_u8)] [false]], [⟨true, [(.int .i64), (.int .i64), .str, .str, (.int .i64), (.int .i64)], [false, false, false, false, false, false]⟩, ⟨false, [.bool], [false]⟩]⟩) Try.func32 (by decide) (by kernel_rfl) (by kernel_rfl) (by kernel_rfl) (fun c' hc' => by
    rw [show loopsOf f32B = [] by kernel_rfl] at hc'
    cases hc') (by decide) (by decide) (fun x y h => (ev32 x).trans h)

/-! ### 89: laws.eqOp -/
noncomputable def F_laws_eqOp (x : Int × ByteArray × ByteArray × Int × Int × Int × ByteArray × ByteArray × Int × Int) : Option (Bool) :=
  bif (x.1 != x.2.2.2.2.2.1) then some false else bif (!((ByteArray.toList x.2.1) == (ByteArray.toList x.2.2.2.2.2.2.1))) then some false else bif (!((ByteArray.toList x.2.2.1) == (ByteArray.toList x.2.2.2.2.2.2.2.1))) then some false else bif (x.2.2.2.1 != x.2.2.2.2.2.2.2.2.1) then some false else bif (x.2.2.2.2.1 != x.2.2.2.2.2.2.2.2.2) then some false else some true
noncomputable def f89B : Code := match Try.f89.body with
  | some c => c
  | none => .skip
noncomputable def f89K : C.Sem := tab []
noncomputable def f89P : Lp := fun i s {_R} κ => none
theorem k89 : Contract C Try.prog f89K := contract_tab _ (fun p hp => by cases hp)
theorem ev89 (x : Int × ByteArray × ByteArray × Int × Int × Int × ByteArray × ByteArray × Int × Int) : evalB C f89K f89P 89 Try.f89 f89B ⟨[.v true [(.int .i64), .str, .str, (.int .i64), (.int .i64)] [false, false, false, false, false], .v true [(.int .i64), .str, .str, (.int .i64), (.int .i64)] [false, false, false, false, false]], [⟨false, [.bool], [false]⟩]⟩ [(.int .i64), .str, .str, (.int .i64), (.int .i64), (.int .i64), .str, .str, (.int .i64), (.int .i64)] [.bool] x = F_laws_eqOp x := by kernel_rfl
theorem ok89 : ContractAt C Try.prog 89 F_laws_eqOp := fn_sound (lp := f89P) tok mixed k89 (fn := Try.f89) (c := f89B) (sg := ⟨[.v true [(.int .i64), .str, .str, (.int .i64), (.int .i64)] [false, false, false, false, false], .v true [(.int .i64), .str, .str, (.int .i64), (.int .i64)] [false, false, false, false, false]], [⟨false, [.bool], [false]⟩]⟩) Try.func89 (by decide) (by kernel_rfl) (by kernel_rfl) (by kernel_rfl) (fun c' hc' => by
    rw [show loopsOf f89B = [] by kernel_rfl] at hc'
    cases hc') (by decide) (by decide) (fun x y h => (ev89 x).trans h)

/-! ### 33: laws.eqEnt -/
noncomputable def F_laws_eqEnt (x : Int × Int × ByteArray × ByteArray × Int × Int × Int × Int × ByteArray × ByteArray × Int × Int) : Option (Bool) :=
  bif (x.1 != x.2.2.2.2.2.2.1) then some false else Option.bind (F_laws_eqOp (x.2.1, x.2.2.1, x.2.2.2.1, x.2.2.2.2.1, x.2.2.2.2.2.1, x.2.2.2.2.2.2.2.1, x.2.2.2.2.2.2.2.2.1, x.2.2.2.2.2.2.2.2.2.1, x.2.2.2.2.2.2.2.2.2.2.1, x.2.2.2.2.2.2.2.2.2.2.2)) fun r1 => bif (!r1) then some false else some true
noncomputable def f33B : Code := match Try.f33.body with
  | some c => c
  | none => .skip
noncomputable def f33K : C.Sem := tab [⟨89, F_laws_eqOp⟩]
noncomputable def f33P : Lp := fun i s {_R} κ => none
theorem k33 : Contract C Try.prog f33K := contract_tab _ (fun p hp => by
    simp only [List.mem_cons, List.mem_nil_iff, or_false] at hp
    rcases hp with rfl
    · exact ok89)
theorem ev33 (x : Int × Int × ByteArray × ByteArray × Int × Int × Int × Int × ByteArray × ByteArray × Int × Int) : evalB C f33K f33P 33 Try.f33 f33B ⟨[.v true [(.int .i64), (.int .i64), .str, .str, (.int .i64), (.int .i64)] [false, false, false, false, false, false], .v true [(.int .i64), (.int .i64), .str, .str, (.int .i64), (.int .i64)] [false, false, false, false, false, false]], [⟨false, [.bool], [false]⟩]⟩ [(.int .i64), (.int .i64), .str, .str, (.int .i64), (.int .i64), (.int .i64), (.int .i64), .str, .str, (.int .i64), (.int .i64)] [.bool] x = F_laws_eqEnt x := by kernel_rfl
theorem ok33 : ContractAt C Try.prog 33 F_laws_eqEnt := fn_sound (lp := f33P) tok mixed k33 (fn := Try.f33) (c := f33B) (sg := ⟨[.v true [(.int .i64), (.int .i64), .str, .str, (.int .i64), (.int .i64)] [false, false, false, false, false, false], .v true [(.int .i64), (.int .i64), .str, .str, (.int .i64), (.int .i64)] [false, false, false, false, false, false]], [⟨false, [.bool], [false]⟩]⟩) Try.func33 (by decide) (by kernel_rfl) (by kernel_rfl) (by kernel_rfl) (fun c' hc' => by
    rw [show loopsOf f33B = [] by kernel_rfl] at hc'
    cases hc') (by decide) (by decide) (fun x y h => (ev33 x).trans h)

/-! ### 5: laws.FnExactGetEnt -/
noncomputable def F_laws_FnExactGetEnt (x : List E_u8) : Option (Bool) :=
  bif (decide (((List.length x : Nat) : Int) > (1048576 : Int))) then some true else Option.bind (F_laws_toByteS x) fun r1 => Option.bind (F_spec_GetEnt r1) fun r2 => Option.bind (F_laws_toByteS x) fun r3 => Option.bind (F_impl_GetEnt r3) fun r4 => Option.bind (F_laws_eqEnt (r4.1, r4.2.1, r4.2.2.1, r4.2.2.2.1, r4.2.2.2.2.1, r4.2.2.2.2.2.1, r2.1, r2.2.1, r2.2.2.1, r2.2.2.2.1, r2.2.2.2.2.1, r2.2.2.2.2.2.1)) fun r5 => Option.bind (bif (!r5) then some true else some (!(r4.2.2.2.2.2.2 == r2.2.2.2.2.2.2))) fun u6 => bif u6 then some false else Option.bind (F_laws_toByteS x) fun r7 => Option.bind (F_laws_eqByteS (r3, r7)) fun r8 => bif (!r8) then some false else some true
noncomputable def f5B : Code := match Try.f5.body with
  | some c => c
  | none => .skip
noncomputable def f5K : C.Sem := tab [⟨15, F_laws_eqByteS⟩, ⟨30, F_spec_GetEnt⟩, ⟨31, F_laws_toByteS⟩, ⟨32, F_impl_GetEnt⟩, ⟨33, F_laws_eqEnt⟩]
noncomputable def f5P : Lp := fun i s {_R} κ => none
theorem k5 : Contract C Try.prog f5K := contract_tab _ (fun p hp => by
    simp only [List.mem_cons, List.mem_nil_iff, or_false] at hp
    rcases hp with rfl | rfl | rfl | rfl | rfl
    · exact ok15
    · exact ok30
    · exact ok31
    · exact ok32
    · exact ok33)
theorem ev5 (x : List E_u8) : evalB C f5K f5P 5 Try.f5 f5B ⟨[.v false [(.sl 5 ts_u8)] [false]], [⟨false, [.bool], [false]⟩]⟩ [(.sl 5 ts_u8)] [.bool] x = F_laws_FnExactGetEnt x := by kernel_rfl
theorem ok5 : ContractAt C Try.prog 5 F_laws_FnExactGetEnt := fn_sound (lp := f5P) tok mixed k5 (fn := Try.f5) (c := f5B) (sg := ⟨[.v false [(.sl 5 ts_u8)] [false]], [⟨false, [.bool], [false]⟩]⟩) Try.func5 (by decide) (by kernel_rfl) (by kernel_rfl) (by kernel_rfl) (fun c' hc' => by
    rw [show loopsOf f5B = [] by kernel_rfl] at hc'
    cases hc') (by decide) (by decide) (fun x y h => (ev5 x).trans h)
end Go.Proofs.Ytmanmgafjbnakaa.XT
