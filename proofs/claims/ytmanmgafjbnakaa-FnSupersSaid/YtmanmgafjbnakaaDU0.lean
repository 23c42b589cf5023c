/- What functions compute, and that they do; part 0 of U; by a program (dec.py). No condition. -/
import Derived.Test.YtmanmgafjbnakaaXU
namespace Go.Proofs.Ytmanmgafjbnakaa.XU
open Go.Proofs.Ytmanmgafjbnakaa.R
set_option linter.unusedVariables false
set_option maxRecDepth 100000

/-! ### 18: laws.big -/
noncomputable def F_laws_big (x : List E_u8) : Option (Bool) :=
  some (decide (((List.length x : Nat) : Int) > (1048576 : Int)))
noncomputable def f18B : Code := match Try.f18.body with
  | some c => c
  | none => .skip
noncomputable def f18K : C.Sem := tab []
noncomputable def f18P : Lp := fun i s {_R} κ => none
theorem k18 : Contract C Try.prog f18K := contract_tab _ (fun p hp => by cases hp)
theorem ev18 (x : List E_u8) : evalB C f18K f18P 18 Try.f18 f18B ⟨[.v false [(.sl 5 ts_u8)] [false]], [⟨false, [.bool], [false]⟩], false⟩ [(.sl 5 ts_u8)] [.bool] x = F_laws_big x := by kernel_rfl
theorem ok18 : ContractAt C Try.prog 18 F_laws_big := fn_sound (lp := f18P) tok mixed k18 (by kernel_rfl) (fn := Try.f18) (c := f18B) (sg := ⟨[.v false [(.sl 5 ts_u8)] [false]], [⟨false, [.bool], [false]⟩], false⟩) Try.func18 (by decide) (by kernel_rfl) (by kernel_rfl) (by kernel_rfl) (fun c' hc' => by
    rw [show loopsOf f18B = [] by kernel_rfl] at hc'
    cases hc') (by decide) (by decide) (fun x y h => (ev18 x).trans h)

/-! ### 71: spec.l1New -/
abbrev T_spec_l1New_3 : Type := List E_u8 × Int × Int
noncomputable def S_spec_l1New_3 {R : Type} (k0 : (List E_u8 × Int) → Option R) (again : T_spec_l1New_3 → Option R) (t3 : T_spec_l1New_3) : Option R :=
  Option.bind (bif (decide (t3.2.2 < ((List.length t3.1 : Nat) : Int))) then some (decide (t3.2.2 < (4000 : Int))) else some false) fun u1 => bif u1 then if (0 : Int) ≤ t3.2.2 then if t3.2.2 < ((List.length t3.1 : Nat) : Int) then again (t3.1, (Go.bits .and .i64 (Go.IntKind.wrap .i64 ((Go.IntKind.wrap .i64 ((Go.IntKind.wrap .i64 (t3.2.1 * (137 : Int))) + (Go.IntKind.wrap .i64 (rd_u8 t3.1 t3.2.2)))) + (11 : Int))) (1073741823 : Int)), (Go.IntKind.wrap .i64 (t3.2.2 + (1 : Int)))) else none else none else k0 (t3.1, t3.2.1)
noncomputable def L_spec_l1New_3 {R : Type} (k0 : (List E_u8 × Int) → Option R) (t : T_spec_l1New_3) : Option R := iter (S_spec_l1New_3 k0) FUEL t
noncomputable def F_spec_l1New (x : List E_u8) : Option (List E_u8 × Int × Int) :=
  L_spec_l1New_3 (fun x2 => some (x2.1, (0 : Int), x2.2)) (x, (Go.IntKind.wrap .i64 ((941941 : Int) + ((List.length x : Nat) : Int))), (0 : Int))
noncomputable def f71B : Code := match Try.f71.body with
  | some c => c
  | none => .skip
noncomputable def f71K : C.Sem := tab []
def f71h3_0 : List Sh := [.v (.sl 5 ts_u8), .dead, .dead, .v (.int .i64), .v (.int .i64), .dead, .dead, .dead, .dead, .dead, .dead, .dead, .dead, .dead, .dead, .dead, .dead, .dead, .dead, .dead, .dead, .dead, .dead, .dead, .dead, .dead, .dead, .dead, .dead, .dead, .dead, .dead]
def f71o3_0 : List (Nat × OSh) := []
def f71e3_0 (t : List E_u8 × Int × Int) : St := ⟨[.val (.sl 5 ts_u8) t.1, .dead, .dead, .val (.int .i64) t.2.1, .val (.int .i64) t.2.2, .dead, .dead, .dead, .dead, .dead, .dead, .dead, .dead, .dead, .dead, .dead, .dead, .dead, .dead, .dead, .dead, .dead, .dead, .dead, .dead, .dead, .dead, .dead, .dead, .dead, .dead, .dead], []⟩
def f71x3_0 (t : List E_u8 × Int) : St := ⟨[.val (.sl 5 ts_u8) t.1, .dead, .dead, .val (.int .i64) t.2, .dead, .dead, .dead, .dead, .dead, .dead, .dead, .dead, .dead, .dead, .dead, .dead, .dead, .dead, .dead, .dead, .dead, .dead, .dead, .dead, .dead, .dead, .dead, .dead, .dead, .dead, .dead, .dead], []⟩
def f71u3_0 (s : St) : Option (List E_u8 × Int × Int) := (unS f71h3_0 f71o3_0 s).map fun v => (v.1.1, v.1.2.2.2.1, v.1.2.2.2.2.1)
theorem f71un3_0 : ∀ (s : St) (t : List E_u8 × Int × Int), f71u3_0 s = some t → f71e3_0 t = s := fun s v h => by
  obtain ⟨u, hu, rfl⟩ := Option.map_eq_some_iff.1 h
  exact (show f71e3_0 (u.1.1, u.1.2.2.2.1, u.1.2.2.2.2.1) = mkS f71h3_0 f71o3_0 u by kernel_rfl).trans (mkS_un f71h3_0 f71o3_0 s u hu)
def f71u3 : St → Option (List E_u8 × Int × Int) := f71u3_0
def f71e3 : (List E_u8 × Int × Int) → St := f71e3_0
theorem f71un3 : ∀ (s : St) (t : List E_u8 × Int × Int), f71u3 s = some t → f71e3 t = s := f71un3_0
noncomputable def f71P : Lp := fun i s {_R} κ => bif Nat.beq i 3 then (f71u3 s).bind fun t => L_spec_l1New_3 (fun t => κ (some 0) (f71x3_0 t)) t else none
noncomputable def f71c3 : Code := (loopsOf f71B).getD 0 .skip
theorem f71A3 : C.live 71 (firstRegion f71c3) = some ([0, 3, 4, 13, 14], [0, 3]) := by kernel_rfl
theorem f71B3 {R : Type} (κ : Option Nat → St → Option R) (s : St) : f71P (firstRegion f71c3) s κ = (f71u3 s).bind fun t => iter (S_spec_l1New_3 (fun t => κ (some 0) (f71x3_0 t))) FUEL t := by kernel_rfl
theorem f71C3 {R : Type} (κ : Option Nat → St → Option R) (again : St → Option R) (t : T_spec_l1New_3) : stepL C f71K f71P 71 f71c3 [0, 3, 4, 13, 14] [0, 3] κ again (f71e3 t) = S_spec_l1New_3 (fun t => κ (some 0) (f71x3_0 t)) (fun t => again (f71e3 t)) t := by kernel_rfl
theorem f71ok3 : LoopOk C f71K f71P 71 f71c3 := loop_ok f71A3 f71e3 f71u3 f71un3 (fun {_R} κ => S_spec_l1New_3 (fun t => κ (some 0) (f71x3_0 t))) (fun {_R} κ s => f71B3 κ s) (fun {_R} κ again t => f71C3 κ again t)
theorem k71 : Contract C Try.prog f71K := contract_tab _ (fun p hp => by cases hp)
theorem ev71 (x : List E_u8) : evalB C f71K f71P 71 Try.f71 f71B ⟨[.v false [(.sl 5 ts_u8)] [false]], [⟨true, [(.sl 5 ts_u8), (.int .i64), (.int .i64)], [false, false, false]⟩], true⟩ [(.sl 5 ts_u8)] [(.sl 5 ts_u8), (.int .i64), (.int .i64)] x = F_spec_l1New x := by kernel_rfl
theorem ok71 : ContractAt C Try.prog 71 F_spec_l1New := fn_sound (lp := f71P) tok mixed k71 (by kernel_rfl) (fn := Try.f71) (c := f71B) (sg := ⟨[.v false [(.sl 5 ts_u8)] [false]], [⟨true, [(.sl 5 ts_u8), (.int .i64), (.int .i64)], [false, false, false]⟩], true⟩) Try.func71 (by decide) (by kernel_rfl) (by kernel_rfl) (by kernel_rfl) (fun c' hc' => by
    rw [show loopsOf f71B = [f71c3] by kernel_rfl] at hc'
    simp only [List.mem_cons, List.mem_nil_iff, or_false] at hc'
    rcases hc' with rfl
    · exact f71ok3) (by decide) (by decide) (fun x y h => (ev71 x).trans h)

/-! ### 132: spec.l1Byte -/
noncomputable def F_spec_l1Byte (x : List E_u8 × Int × Int) : Option (Int × List E_u8 × Int × Int) :=
  bif (decide (x.2.1 < ((List.length x.1 : Nat) : Int))) then if (0 : Int) ≤ x.2.1 then if x.2.1 < ((List.length x.1 : Nat) : Int) then some ((Go.bits .and .i64 (Go.IntKind.wrap .i64 ((Go.bits .and .i64 (Go.bits .xor .i64 (Int.fdiv (Go.IntKind.wrap .i64 ((Go.IntKind.wrap .i64 (x.2.2 * (6364136223846793005 : Int))) + (1442695040888963407 : Int))) (2 ^ (min (Int.toNat (33 : Int)) (Go.IntKind.bits .i64)))) (Int.fdiv (Go.IntKind.wrap .i64 ((Go.IntKind.wrap .i64 (x.2.2 * (6364136223846793005 : Int))) + (1442695040888963407 : Int))) (2 ^ (min (Int.toNat (47 : Int)) (Go.IntKind.bits .i64))))) (255 : Int)) + (Go.IntKind.wrap .i64 (rd_u8 x.1 x.2.1)))) (255 : Int)), x.1, (Go.IntKind.wrap .i64 (x.2.1 + (1 : Int))), (Go.IntKind.wrap .i64 ((Go.IntKind.wrap .i64 (x.2.2 * (6364136223846793005 : Int))) + (1442695040888963407 : Int)))) else none else none else some ((Go.bits .and .i64 (Go.bits .xor .i64 (Int.fdiv (Go.IntKind.wrap .i64 ((Go.IntKind.wrap .i64 (x.2.2 * (6364136223846793005 : Int))) + (1442695040888963407 : Int))) (2 ^ (min (Int.toNat (33 : Int)) (Go.IntKind.bits .i64)))) (Int.fdiv (Go.IntKind.wrap .i64 ((Go.IntKind.wrap .i64 (x.2.2 * (6364136223846793005 : Int))) + (1442695040888963407 : Int))) (2 ^ (min (Int.toNat (47 : Int)) (Go.IntKind.bits .i64))))) (255 : Int)), x.1, x.2.1, (Go.IntKind.wrap .i64 ((Go.IntKind.wrap .i64 (x.2.2 * (6364136223846793005 : Int))) + (1442695040888963407 : Int))))
noncomputable def f132B : Code := match Try.f132.body with
  | some c => c
  | none => .skip
noncomputable def f132K : C.Sem := tab []
noncomputable def f132P : Lp := fun i s {_R} κ => none
theorem k132 : Contract C Try.prog f132K := contract_tab _ (fun p hp => by cases hp)
theorem ev132 (x : List E_u8 × Int × Int) : evalB C f132K f132P 132 Try.f132 f132B ⟨[.p none [(.sl 5 ts_u8), (.int .i64), (.int .i64)] [false, false, false]], [⟨false, [(.int .i64)], [false]⟩], false⟩ [(.sl 5 ts_u8), (.int .i64), (.int .i64)] [(.int .i64), (.sl 5 ts_u8), (.int .i64), (.int .i64)] x = F_spec_l1Byte x := by kernel_rfl
theorem ok132 : ContractAt C Try.prog 132 F_spec_l1Byte := fn_sound (lp := f132P) tok mixed k132 (by kernel_rfl) (fn := Try.f132) (c := f132B) (sg := ⟨[.p none [(.sl 5 ts_u8), (.int .i64), (.int .i64)] [false, false, false]], [⟨false, [(.int .i64)], [false]⟩], false⟩) Try.func132 (by decide) (by kernel_rfl) (by kernel_rfl) (by kernel_rfl) (fun c' hc' => by
    rw [show loopsOf f132B = [] by kernel_rfl] at hc'
    cases hc') (by decide) (by decide) (fun x y h => (ev132 x).trans h)

/-! ### 78: spec.l1Below -/
noncomputable def F_spec_l1Below (x : List E_u8 × Int × Int × Int) : Option (Int × List E_u8 × Int × Int) :=
  bif (decide (x.2.2.2 ≤ (0 : Int))) then some ((0 : Int), x.1, x.2.1, x.2.2.1) else bif (decide (x.2.2.2 ≤ (256 : Int))) then Option.bind (F_spec_l1Byte (x.1, x.2.1, x.2.2.1)) fun r1 => if x.2.2.2 = 0 then none else some ((Int.tmod r1.1 x.2.2.2), r1.2.1, r1.2.2.1, r1.2.2.2) else Option.bind (F_spec_l1Byte (x.1, x.2.1, x.2.2.1)) fun r2 => Option.bind (F_spec_l1Byte (r2.2.1, r2.2.2.1, r2.2.2.2)) fun r3 => Option.bind (F_spec_l1Byte (r3.2.1, r3.2.2.1, r3.2.2.2)) fun r4 => if x.2.2.2 = 0 then none else some ((Int.tmod (Go.IntKind.wrap .i64 ((Go.IntKind.wrap .i64 ((Go.IntKind.wrap .i64 (r2.1 * (65536 : Int))) + (Go.IntKind.wrap .i64 (r3.1 * (256 : Int))))) + r4.1)) x.2.2.2), r4.2.1, r4.2.2.1, r4.2.2.2)
noncomputable def f78B : Code := match Try.f78.body with
  | some c => c
  | none => .skip
noncomputable def f78K : C.Sem := tab [⟨132, F_spec_l1Byte⟩]
noncomputable def f78P : Lp := fun i s {_R} κ => none
theorem k78 : Contract C Try.prog f78K := contract_tab _ (fun p hp => by
    simp only [List.mem_cons, List.mem_nil_iff, or_false] at hp
    rcases hp with rfl
    · exact ok132)
theorem ev78 (x : List E_u8 × Int × Int × Int) : evalB C f78K f78P 78 Try.f78 f78B ⟨[.p none [(.sl 5 ts_u8), (.int .i64), (.int .i64)] [false, false, false], .v false [(.int .i64)] [false]], [⟨false, [(.int .i64)], [false]⟩], false⟩ [(.sl 5 ts_u8), (.int .i64), (.int .i64), (.int .i64)] [(.int .i64), (.sl 5 ts_u8), (.int .i64), (.int .i64)] x = F_spec_l1Below x := by kernel_rfl
theorem ok78 : ContractAt C Try.prog 78 F_spec_l1Below := fn_sound (lp := f78P) tok mixed k78 (by kernel_rfl) (fn := Try.f78) (c := f78B) (sg := ⟨[.p none [(.sl 5 ts_u8), (.int .i64), (.int .i64)] [false, false, false], .v false [(.int .i64)] [false]], [⟨false, [(.int .i64)], [false]⟩], false⟩) Try.func78 (by decide) (by kernel_rfl) (by kernel_rfl) (by kernel_rfl) (fun c' hc' => by
    rw [show loopsOf f78B = [] by kernel_rfl] at hc'
    cases hc') (by decide) (by decide) (fun x y h => (ev78 x).trans h)

/-! ### 77: spec.l1Int -/
noncomputable def F_spec_l1Int (x : List E_u8 × Int × Int × List E_i64) : Option (Int × List E_u8 × Int × Int) :=
  Option.bind (F_spec_l1Below (x.1, x.2.1, x.2.2.1, ((List.length x.2.2.2 : Nat) : Int))) fun r1 => if (0 : Int) ≤ r1.1 then if r1.1 < ((List.length x.2.2.2 : Nat) : Int) then some ((rd_i64 x.2.2.2 r1.1), r1.2.1, r1.2.2.1, r1.2.2.2) else none else none
noncomputable def f77B : Code := match Try.f77.body with
  | some c => c
  | none => .skip
noncomputable def f77K : C.Sem := tab [⟨78, F_spec_l1Below⟩]
noncomputable def f77P : Lp := fun i s {_R} κ => none
theorem k77 : Contract C Try.prog f77K := contract_tab _ (fun p hp => by
    simp only [List.mem_cons, List.mem_nil_iff, or_false] at hp
    rcases hp with rfl
    · exact ok78)
theorem ev77 (x : List E_u8 × Int × Int × List E_i64) : evalB C f77K f77P 77 Try.f77 f77B ⟨[.p none [(.sl 5 ts_u8), (.int .i64), (.int .i64)] [false, false, false], .v false [(.sl 3 ts_i64)] [false]], [⟨false, [(.int .i64)], [false]⟩], false⟩ [(.sl 5 ts_u8), (.int .i64), (.int .i64), (.sl 3 ts_i64)] [(.int .i64), (.sl 5 ts_u8), (.int .i64), (.int .i64)] x = F_spec_l1Int x := by kernel_rfl
theorem ok77 : ContractAt C Try.prog 77 F_spec_l1Int := fn_sound (lp := f77P) tok mixed k77 (by kernel_rfl) (fn := Try.f77) (c := f77B) (sg := ⟨[.p none [(.sl 5 ts_u8), (.int .i64), (.int .i64)] [false, false, false], .v false [(.sl 3 ts_i64)] [false]], [⟨false, [(.int .i64)], [false]⟩], false⟩) Try.func77 (by decide) (by kernel_rfl) (by kernel_rfl) (by kernel_rfl) (fun c' hc' => by
    rw [show loopsOf f77B = [] by kernel_rfl] at hc'
    cases hc') (by decide) (by decide) (fun x y h => (ev77 x).trans h)

/-! ### 75: spec.l18Super -/
noncomputable def F_spec_l18Super (x : List E_u8 × Int × Int) : Option (Int × Int × Int × Int × Int × List E_u8 × Int × Int) :=
  Option.bind (F_spec_l1Below (x.1, x.2.1, x.2.2, (9 : Int))) fun r1 => Option.bind (F_spec_l1Below (r1.2.1, r1.2.2.1, r1.2.2.2, (2 : Int))) fun r2 => Option.bind (F_spec_l1Below (r2.2.1, r2.2.2.1, r2.2.2.2, (200 : Int))) fun r3 => Option.bind (F_spec_l1Int (r3.2.1, r3.2.2.1, r3.2.2.2, ([(0 : Int), (1 : Int), (4294967295 : Int)] : List E_i64))) fun r4 => Option.bind (F_spec_l1Below (r4.2.1, r4.2.2.1, r4.2.2.2, (50 : Int))) fun r5 => some ((Go.IntKind.wrap .i64 ((1 : Int) + r1.1)), r2.1, r3.1, r4.1, (Go.IntKind.wrap .i64 ((1 : Int) + r5.1)), r5.2.1, r5.2.2.1, r5.2.2.2)
noncomputable def f75B : Code := match Try.f75.body with
  | some c => c
  | none => .skip
noncomputable def f75K : C.Sem := tab [⟨77, F_spec_l1Int⟩, ⟨78, F_spec_l1Below⟩]
noncomputable def f75P : Lp := fun i s {_R} κ => none
theorem k75 : Contract C Try.prog f75K := contract_tab _ (fun p hp => by
    simp only [List.mem_cons, List.mem_nil_iff, or_false] at hp
    rcases hp with rfl | rfl
    · exact ok77
    · exact ok78)
theorem ev75 (x : List E_u8 × Int × Int) : evalB C f75K f75P 75 Try.f75 f75B ⟨[.p none [(.sl 5 ts_u8), (.int .i64), (.int .i64)] [false, false, false]], [⟨true, [(.int .i64), (.int .i64), (.int .i64), (.int .i64), (.int .i64)], [false, false, false, false, false]⟩], false⟩ [(.sl 5 ts_u8), (.int .i64), (.int .i64)] [(.int .i64), (.int .i64), (.int .i64), (.int .i64), (.int .i64), (.sl 5 ts_u8), (.int .i64), (.int .i64)] x = F_spec_l18Super x := by kernel_rfl
theorem ok75 : ContractAt C Try.prog 75 F_spec_l18Super := fn_sound (lp := f75P) tok mixed k75 (by kernel_rfl) (fn := Try.f75) (c := f75B) (sg := ⟨[.p none [(.sl 5 ts_u8), (.int .i64), (.int .i64)] [false, false, false]], [⟨true, [(.int .i64), (.int .i64), (.int .i64), (.int .i64), (.int .i64)], [false, false, false, false, false]⟩], false⟩) Try.func75 (by decide) (by kernel_rfl) (by kernel_rfl) (by kernel_rfl) (fun c' hc' => by
    rw [show loopsOf f75B = [] by kernel_rfl] at hc'
    cases hc') (by decide) (by decide) (fun x y h => (ev75 x).trans h)

/-! ### 72: spec.l18Any -/
noncomputable def F_spec_l18Any (x : List E_u8 × Int × Int) : Option (Int × Int × Int × Int × Int × List E_u8 × Int × Int) :=
  Option.bind (F_spec_l18Super (x.1, x.2.1, x.2.2)) fun r1 => Option.bind (F_spec_l1Below (r1.2.2.2.2.2.1, r1.2.2.2.2.2.2.1, r1.2.2.2.2.2.2.2, (10 : Int))) fun r2 => bif (r2.1 == (0 : Int)) then Option.bind (F_spec_l1Int (r2.2.1, r2.2.2.1, r2.2.2.2, ([(0 : Int), (60000 : Int), (60001 : Int)] : List E_i64))) fun r3 => some (r3.1, r1.2.1, r1.2.2.1, r1.2.2.2.1, r1.2.2.2.2.1, r3.2.1, r3.2.2.1, r3.2.2.2) else bif (r2.1 == (1 : Int)) then Option.bind (F_spec_l1Int (r2.2.1, r2.2.2.1, r2.2.2.2, ([(-1 : Int), (2 : Int)] : List E_i64))) fun r4 => some (r1.1, r4.1, r1.2.2.1, r1.2.2.2.1, r1.2.2.2.2.1, r4.2.1, r4.2.2.1, r4.2.2.2) else bif (r2.1 == (2 : Int)) then Option.bind (F_spec_l1Int (r2.2.1, r2.2.2.1, r2.2.2.2, ([(-1 : Int), (1680 : Int), (1681 : Int)] : List E_i64))) fun r5 => some (r1.1, r1.2.1, r5.1, r1.2.2.2.1, r1.2.2.2.2.1, r5.2.1, r5.2.2.1, r5.2.2.2) else bif (r2.1 == (3 : Int)) then Option.bind (F_spec_l1Int (r2.2.1, r2.2.2.1, r2.2.2.2, ([(-1 : Int), (4294967296 : Int)] : List E_i64))) fun r6 => some (r1.1, r1.2.1, r1.2.2.1, r6.1, r1.2.2.2.2.1, r6.2.1, r6.2.2.1, r6.2.2.2) else bif (r2.1 == (4 : Int)) then Option.bind (F_spec_l1Int (r2.2.1, r2.2.2.1, r2.2.2.2, ([(0 : Int), (60000 : Int), (60001 : Int)] : List E_i64))) fun r7 => some (r1.1, r1.2.1, r1.2.2.1, r1.2.2.2.1, r7.1, r7.2.1, r7.2.2.1, r7.2.2.2) else some (r1.1, r1.2.1, r1.2.2.1, r1.2.2.2.1, r1.2.2.2.2.1, r2.2.1, r2.2.2.1, r2.2.2.2)
noncomputable def f72B : Code := match Try.f72.body with
  | some c => c
  | none => .skip
noncomputable def f72K : C.Sem := tab [⟨75, F_spec_l18Super⟩, ⟨77, F_spec_l1Int⟩, ⟨78, F_spec_l1Below⟩]
noncomputable def f72P : Lp := fun i s {_R} κ => none
theorem k72 : Contract C Try.prog f72K := contract_tab _ (fun p hp => by
    simp only [List.mem_cons, List.mem_nil_iff, or_false] at hp
    rcases hp with rfl | rfl | rfl
    · exact ok75
    · exact ok77
    · exact ok78)
theorem ev72 (x : List E_u8 × Int × Int) : evalB C f72K f72P 72 Try.f72 f72B ⟨[.p none [(.sl 5 ts_u8), (.int .i64), (.int .i64)] [false, false, false]], [⟨true, [(.int .i64), (.int .i64), (.int .i64), (.int .i64), (.int .i64)], [false, false, false, false, false]⟩], false⟩ [(.sl 5 ts_u8), (.int .i64), (.int .i64)] [(.int .i64), (.int .i64), (.int .i64), (.int .i64), (.int .i64), (.sl 5 ts_u8), (.int .i64), (.int .i64)] x = F_spec_l18Any x := by kernel_rfl
theorem ok72 : ContractAt C Try.prog 72 F_spec_l18Any := fn_sound (lp := f72P) tok mixed k72 (by kernel_rfl) (fn := Try.f72) (c := f72B) (sg := ⟨[.p none [(.sl 5 ts_u8), (.int .i64), (.int .i64)] [false, false, false]], [⟨true, [(.int .i64), (.int .i64), (.int .i64), (.int .i64), (.int .i64)], [false, false, false, false, false]⟩], false⟩) Try.func72 (by decide) (by kernel_rfl) (by kernel_rfl) (by kernel_rfl) (fun c' hc' => by
    rw [show loopsOf f72B = [] by kernel_rfl] at hc'
    cases hc') (by decide) (by decide) (fun x y h => (ev72 x).trans h)

/-! ### 19: spec.DrawPutSuper -/
noncomputable def F_spec_DrawPutSuper (x : List E_u8) : Option (Int × Int × Int × Int × Int) :=
  Option.bind (F_spec_l1New x) fun r1 => Option.bind (F_spec_l18Any (r1.1, r1.2.1, r1.2.2)) fun r2 => some (r2.1, r2.2.1, r2.2.2.1, r2.2.2.2.1, r2.2.2.2.2.1)
noncomputable def f19B : Code := match Try.f19.body with
  | some c => c
  | none => .skip
noncomputable def f19K : C.Sem := tab [⟨71, F_spec_l1New⟩, ⟨72, F_spec_l18Any⟩]
noncomputable def f19P : Lp := fun i s {_R} κ => none
theorem k19 : Contract C Try.prog f19K := contract_tab _ (fun p hp => by
    simp only [List.mem_cons, List.mem_nil_iff, or_false] at hp
    rcases hp with rfl | rfl
    · exact ok71
    · exact ok72)
theorem ev19 (x : List E_u8) : evalB C f19K f19P 19 Try.f19 f19B ⟨[.v false [(.sl 5 ts_u8)] [false]], [⟨true, [(.int .i64), (.int .i64), (.int .i64), (.int .i64), (.int .i64)], [false, false, false, false, false]⟩], false⟩ [(.sl 5 ts_u8)] [(.int .i64), (.int .i64), (.int .i64), (.int .i64), (.int .i64)] x = F_spec_DrawPutSuper x := by kernel_rfl
theorem ok19 : ContractAt C Try.prog 19 F_spec_DrawPutSuper := fn_sound (lp := f19P) tok mixed k19 (by kernel_rfl) (fn := Try.f19) (c := f19B) (sg := ⟨[.v false [(.sl 5 ts_u8)] [false]], [⟨true, [(.int .i64), (.int .i64), (.int .i64), (.int .i64), (.int .i64)], [false, false, false, false, false]⟩], false⟩) Try.func19 (by decide) (by kernel_rfl) (by kernel_rfl) (by kernel_rfl) (fun c' hc' => by
    rw [show loopsOf f19B = [] by kernel_rfl] at hc'
    cases hc') (by decide) (by decide) (fun x y h => (ev19 x).trans h)

/-! ### 85: impl.within -/
noncomputable def F_impl_within (x : Int × Int × Int) : Option (Bool) :=
  Option.bind (bif (decide (x.1 ≥ x.2.1)) then some (decide (x.1 ≤ x.2.2)) else some false) fun u1 => some u1
noncomputable def f85B : Code := match Try.f85.body with
  | some c => c
  | none => .skip
noncomputable def f85K : C.Sem := tab []
noncomputable def f85P : Lp := fun i s {_R} κ => none
theorem k85 : Contract C Try.prog f85K := contract_tab _ (fun p hp => by cases hp)
theorem ev85 (x : Int × Int × Int) : evalB C f85K f85P 85 Try.f85 f85B ⟨[.v false [(.int .i64)] [false], .v false [(.int .i64)] [false], .v false [(.int .i64)] [false]], [⟨false, [.bool], [false]⟩], false⟩ [(.int .i64), (.int .i64), (.int .i64)] [.bool] x = F_impl_within x := by kernel_rfl
theorem ok85 : ContractAt C Try.prog 85 F_impl_within := fn_sound (lp := f85P) tok mixed k85 (by kernel_rfl) (fn := Try.f85) (c := f85B) (sg := ⟨[.v false [(.int .i64)] [false], .v false [(.int .i64)] [false], .v false [(.int .i64)] [false]], [⟨false, [.bool], [false]⟩], false⟩) Try.func85 (by decide) (by kernel_rfl) (by kernel_rfl) (by kernel_rfl) (fun c' hc' => by
    rw [show loopsOf f85B = [] by kernel_rfl] at hc'
    cases hc') (by decide) (by decide) (fun x y h => (ev85 x).trans h)

/-! ### 25: impl.SuperOk -/
noncomputable def F_impl_SuperOk (x : Int × Int × Int × Int × Int) : Option (Bool) :=
  Option.bind (F_impl_within (x.1, (1 : Int), (60000 : Int))) fun r1 => Option.bind (bif r1 then Option.bind (F_impl_within (x.2.1, (0 : Int), (1 : Int))) fun r3 => some r3 else some false) fun u2 => Option.bind (bif u2 then Option.bind (F_impl_within (x.2.2.1, (0 : Int), (1680 : Int))) fun r5 => some r5 else some false) fun u4 => Option.bind (bif u4 then Option.bind (F_impl_within (x.2.2.2.1, (0 : Int), (4294967295 : Int))) fun r7 => some r7 else some false) fun u6 => Option.bind (bif u6 then Option.bind (F_impl_within (x.2.2.2.2, (1 : Int), (60000 : Int))) fun r9 => some r9 else some false) fun u8 => some u8
noncomputable def f25B : Code := match Try.f25.body with
  | some c => c
  | none => .skip
noncomputable def f25K : C.Sem := tab [⟨85, F_impl_within⟩]
noncomputable def f25P : Lp := fun i s {_R} κ => none
theorem k25 : Contract C Try.prog f25K := contract_tab _ (fun p hp => by
    simp only [List.mem_cons, List.mem_nil_iff, or_false] at hp
    rcases hp with rfl
    · exact ok85)
theorem ev25 (x : Int × Int × Int × Int × Int) : evalB C f25K f25P 25 Try.f25 f25B ⟨[.v true [(.int .i64), (.int .i64), (.int .i64), (.int .i64), (.int .i64)] [false, false, false, false, false]], [⟨false, [.bool], [false]⟩], false⟩ [(.int .i64), (.int .i64), (.int .i64), (.int .i64), (.int .i64)] [.bool] x = F_impl_SuperOk x := by kernel_rfl
theorem ok25 : ContractAt C Try.prog 25 F_impl_SuperOk := fn_sound (lp := f25P) tok mixed k25 (by kernel_rfl) (fn := Try.f25) (c := f25B) (sg := ⟨[.v true [(.int .i64), (.int .i64), (.int .i64), (.int .i64), (.int .i64)] [false, false, false, false, false]], [⟨false, [.bool], [false]⟩], false⟩) Try.func25 (by decide) (by kernel_rfl) (by kernel_rfl) (by kernel_rfl) (fun c' hc' => by
    rw [show loopsOf f25B = [] by kernel_rfl] at hc'
    cases hc') (by decide) (by decide) (fun x y h => (ev25 x).trans h)

/-! ### 129: impl.joined -/
abbrev T_impl_joined_3 : Type := List E_s_u8 × Int × Int × List E_u8
noncomputable def S_impl_joined_3 {R : Type} (k0 : List E_u8 → Option R) (again : T_impl_joined_3 → Option R) (t3 : T_impl_joined_3) : Option R :=
  bif (decide (t3.2.2.1 < t3.2.1)) then if (0 : Int) ≤ t3.2.2.1 then if t3.2.2.1 < ((List.length t3.1 : Nat) : Int) then if (List.length t3.2.2.2 + List.length (rd_s_u8 t3.1 t3.2.2.1)) * 1 < 140737488355328 then again (t3.1, t3.2.1, (Go.IntKind.wrap .i64 (t3.2.2.1 + (1 : Int))), (t3.2.2.2 ++ (rd_s_u8 t3.1 t3.2.2.1))) else none else none else none else k0 t3.2.2.2
noncomputable def L_impl_joined_3 {R : Type} (k0 : List E_u8 → Option R) (t : T_impl_joined_3) : Option R := iter (S_impl_joined_3 k0) FUEL t
noncomputable def F_impl_joined (x : List E_s_u8) : Option (List E_u8) :=
  L_impl_joined_3 (fun x1 => some x1) (x, ((List.length x : Nat) : Int), (0 : Int), ([] : List E_u8))
noncomputable def f129B : Code := match Try.f129.body with
  | some c => c
  | none => .skip
noncomputable def f129K : C.Sem := tab []
def f129h3_0 : List Sh := [.dead, .dead, .dead, .own 10000000, .dead, .dead, .dead, .v (.sl 27 ts_s_u8), .v (.int .i64), .v (.int .i64), .dead, .dead, .dead, .dead, .dead, .dead, .dead, .dead]
def f129o3_0 : List (Nat × OSh) := [(10000000, .root true 5 ts_u8)]
def f129e3_0 (t : List E_s_u8 × Int × Int × List E_u8) : St := ⟨[.dead, .dead, .dead, .own 10000000, .dead, .dead, .dead, .val (.sl 27 ts_s_u8) t.1, .val (.int .i64) t.2.1, .val (.int .i64) t.2.2.1, .dead, .dead, .dead, .dead, .dead, .dead, .dead, .dead], [(10000000, .root true 5 ts_u8 t.2.2.2)]⟩
def f129x3_0 (t : List E_u8) : St := ⟨[.dead, .dead, .dead, .own 10000000, .dead, .dead, .dead, .dead, .dead, .dead, .dead, .dead, .dead, .dead, .dead, .dead, .dead, .dead], [(10000000, .root true 5 ts_u8 t)]⟩
def f129u3_0 (s : St) : Option (List E_s_u8 × Int × Int × List E_u8) := (unS f129h3_0 f129o3_0 s).map fun v => (v.1.2.2.2.2.2.2.2.1, v.1.2.2.2.2.2.2.2.2.1, v.1.2.2.2.2.2.2.2.2.2.1, v.2.1)
theorem f129un3_0 : ∀ (s : St) (t : List E_s_u8 × Int × Int × List E_u8), f129u3_0 s = some t → f129e3_0 t = s := fun s v h => by
  obtain ⟨u, hu, rfl⟩ := Option.map_eq_some_iff.1 h
  exact (show f129e3_0 (u.1.2.2.2.2.2.2.2.1, u.1.2.2.2.2.2.2.2.2.1, u.1.2.2.2.2.2.2.2.2.2.1, u.2.1) = mkS f129h3_0 f129o3_0 u by kernel_rfl).trans (mkS_un f129h3_0 f129o3_0 s u hu)
def f129u3 : St → Option (List E_s_u8 × Int × Int × List E_u8) := f129u3_0
def f129e3 : (List E_s_u8 × Int × Int × List E_u8) → St := f129e3_0
theorem f129un3 : ∀ (s : St) (t : List E_s_u8 × Int × Int × List E_u8), f129u3 s = some t → f129e3 t = s := f129un3_0
noncomputable def f129P : Lp := fun i s {_R} κ => bif Nat.beq i 3 then (f129u3 s).bind fun t => L_impl_joined_3 (fun t => κ (some 0) (f129x3_0 t)) t else none
noncomputable def f129c3 : Code := (loopsOf f129B).getD 0 .skip
theorem f129A3 : C.live 129 (firstRegion f129c3) = some ([3, 7, 8, 9], [3]) := by kernel_rfl
theorem f129B3 {R : Type} (κ : Option Nat → St → Option R) (s : St) : f129P (firstRegion f129c3) s κ = (f129u3 s).bind fun t => iter (S_impl_joined_3 (fun t => κ (some 0) (f129x3_0 t))) FUEL t := by kernel_rfl
theorem f129C3 {R : Type} (κ : Option Nat → St → Option R) (again : St → Option R) (t : T_impl_joined_3) : stepL C f129K f129P 129 f129c3 [3, 7, 8, 9] [3] κ again (f129e3 t) = S_impl_joined_3 (fun t => κ (some 0) (f129x3_0 t)) (fun t => again (f129e3 t)) t := by kernel_rfl
theorem f129ok3 : LoopOk C f129K f129P 129 f129c3 := loop_ok f129A3 f129e3 f129u3 f129un3 (fun {_R} κ => S_impl_joined_3 (fun t => κ (some 0) (f129x3_0 t))) (fun {_R} κ s => f129B3 κ s) (fun {_R} κ again t => f129C3 κ again t)
theorem k129 : Contract C Try.prog f129K := contract_tab _ (fun p hp => by cases hp)
theorem ev129 (x : List E_s_u8) : evalB C f129K f129P 129 Try.f129 f129B ⟨[.v false [(.sl 27 ts_s_u8)] [false]], [⟨false, [(.sl 5 ts_u8)], [true]⟩], false⟩ [(.sl 27 ts_s_u8)] [(.sl 5 ts_u8)] x = F_impl_joined x := by kernel_rfl
theorem ok129 : ContractAt C Try.prog 129 F_impl_joined := fn_sound (lp := f129P) tok mixed k129 (by kernel_rfl) (fn := Try.f129) (c := f129B) (sg := ⟨[.v false [(.sl 27 ts_s_u8)] [false]], [⟨false, [(.sl 5 ts_u8)], [true]⟩], false⟩) Try.func129 (by decide) (by kernel_rfl) (by kernel_rfl) (by kernel_rfl) (fun c' hc' => by
    rw [show loopsOf f129B = [f129c3] by kernel_rfl] at hc'
    simp only [List.mem_cons, List.mem_nil_iff, or_false] at hc'
    rcases hc' with rfl
    · exact f129ok3) (by decide) (by decide) (fun x y h => (ev129 x).trans h)

/-! ### 68: impl.PutW -/
noncomputable def F_impl_PutW (x : List E_u8 × Int) : Option (List E_u8) :=
  Option.bind (F_impl_joined ([x.1, ([(Go.IntKind.wrap .u8 (Go.bits .and .i64 (Int.fdiv x.2 (2 ^ (min (Int.toNat (8 : Int)) (Go.IntKind.bits .i64)))) (255 : Int))), (Go.IntKind.wrap .u8 (Go.bits .and .i64 x.2 (255 : Int)))] : List E_u8)] : List E_s_u8)) fun r1 => some r1
noncomputable def f68B : Code := match Try.f68.body with
  | some c => c
  | none => .skip
noncomputable def f68K : C.Sem := tab [⟨129, F_impl_joined⟩]
noncomputable def f68P : Lp := fun i s {_R} κ => none
theorem k68 : Contract C Try.prog f68K := contract_tab _ (fun p hp => by
    simp only [List.mem_cons, List.mem_nil_iff, or_false] at hp
    rcases hp with rfl
    · exact ok129)
theorem ev68 (x : List E_u8 × Int) : evalB C f68K f68P 68 Try.f68 f68B ⟨[.v false [(.sl 5 ts_u8)] [false], .v false [(.int .i64)] [false]], [⟨false, [(.sl 5 ts_u8)], [true]⟩], false⟩ [(.sl 5 ts_u8), (.int .i64)] [(.sl 5 ts_u8)] x = F_impl_PutW x := by kernel_rfl
theorem ok68 : ContractAt C Try.prog 68 F_impl_PutW := fn_sound (lp := f68P) tok mixed k68 (by kernel_rfl) (fn := Try.f68) (c := f68B) (sg := ⟨[.v false [(.sl 5 ts_u8)] [false], .v false [(.int .i64)] [false]], [⟨false, [(.sl 5 ts_u8)], [true]⟩], false⟩) Try.func68 (by decide) (by kernel_rfl) (by kernel_rfl) (by kernel_rfl) (fun c' hc' => by
    rw [show loopsOf f68B = [] by kernel_rfl] at hc'
    cases hc') (by decide) (by decide) (fun x y h => (ev68 x).trans h)

/-! ### 69: impl.put4 -/
noncomputable def F_impl_put4 (x : List E_u8 × Int) : Option (List E_u8) :=
  Option.bind (F_impl_PutW (x.1, (Int.fdiv x.2 (2 ^ (min (Int.toNat (16 : Int)) (Go.IntKind.bits .i64)))))) fun r1 => Option.bind (F_impl_PutW (r1, x.2)) fun r2 => some r2
noncomputable def f69B : Code := match Try.f69.body with
  | some c => c
  | none => .skip
noncomputable def f69K : C.Sem := tab [⟨68, F_impl_PutW⟩]
noncomputable def f69P : Lp := fun i s {_R} κ => none
theorem k69 : Contract C Try.prog f69K := contract_tab _ (fun p hp => by
    simp only [List.mem_cons, List.mem_nil_iff, or_false] at hp
    rcases hp with rfl
    · exact ok68)
theorem ev69 (x : List E_u8 × Int) : evalB C f69K f69P 69 Try.f69 f69B ⟨[.v false [(.sl 5 ts_u8)] [false], .v false [(.int .i64)] [false]], [⟨false, [(.sl 5 ts_u8)], [true]⟩], false⟩ [(.sl 5 ts_u8), (.int .i64)] [(.sl 5 ts_u8)] x = F_impl_put4 x := by kernel_rfl
theorem ok69 : ContractAt C Try.prog 69 F_impl_put4 := fn_sound (lp := f69P) tok mixed k69 (by kernel_rfl) (fn := Try.f69) (c := f69B) (sg := ⟨[.v false [(.sl 5 ts_u8)] [false], .v false [(.int .i64)] [false]], [⟨false, [(.sl 5 ts_u8)], [true]⟩], false⟩) Try.func69 (by decide) (by kernel_rfl) (by kernel_rfl) (by kernel_rfl) (fun c' hc' => by
    rw [show loopsOf f69B = [] by kernel_rfl] at hc'
    cases hc') (by decide) (by decide) (fun x y h => (ev69 x).trans h)

/-! ### 70: impl.Crc -/
abbrev T_impl_Crc_7 : Type := Int × List E_u8 × Int × Int × Int
noncomputable def S_impl_Crc_7 {R : Type} (k0 : (Int × List E_u8 × Int × Int) → Option R) (again : T_impl_Crc_7 → Option R) (t7 : T_impl_Crc_7) : Option R :=
  bif (decide (t7.2.2.2.2 < (8 : Int))) then bif ((Int.tmod t7.1 (2 : Int)) == (1 : Int)) then again ((Go.bits .xor .i64 (Go.IntKind.wrap .i64 (Int.tdiv t7.1 (2 : Int))) (2197175160 : Int)), t7.2.1, t7.2.2.1, t7.2.2.2.1, (Go.IntKind.wrap .i64 (t7.2.2.2.2 + (1 : Int)))) else again ((Go.IntKind.wrap .i64 (Int.tdiv t7.1 (2 : Int))), t7.2.1, t7.2.2.1, t7.2.2.2.1, (Go.IntKind.wrap .i64 (t7.2.2.2.2 + (1 : Int)))) else k0 (t7.1, t7.2.1, t7.2.2.1, t7.2.2.2.1)
noncomputable def L_impl_Crc_7 {R : Type} (k0 : (Int × List E_u8 × Int × Int) → Option R) (t : T_impl_Crc_7) : Option R := iter (S_impl_Crc_7 k0) FUEL t
abbrev T_impl_Crc_3 : Type := Int × List E_u8 × Int × Int
noncomputable def S_impl_Crc_3 {R : Type} (k0 : Int → Option R) (again : T_impl_Crc_3 → Option R) (t3 : T_impl_Crc_3) : Option R :=
  bif (decide (t3.2.2.2 < t3.2.2.1)) then if (0 : Int) ≤ t3.2.2.2 then if t3.2.2.2 < ((List.length t3.2.1 : Nat) : Int) then L_impl_Crc_7 (fun x1 => again (x1.1, x1.2.1, x1.2.2.1, (Go.IntKind.wrap .i64 (x1.2.2.2 + (1 : Int))))) ((Go.bits .xor .i64 t3.1 (Go.IntKind.wrap .i64 (rd_u8 t3.2.1 t3.2.2.2))), t3.2.1, t3.2.2.1, t3.2.2.2, (0 : Int)) else none else none else k0 t3.1
noncomputable def L_impl_Crc_3 {R : Type} (k0 : Int → Option R) (t : T_impl_Crc_3) : Option R := iter (S_impl_Crc_3 k0) FUEL t
noncomputable def F_impl_Crc (x : List E_u8) : Option (Int) :=
  L_impl_Crc_3 (fun x2 => some (Go.bits .xor .i64 x2 (4294967295 : Int))) ((4294967295 : Int), x, ((List.length x : Nat) : Int), (0 : Int))
noncomputable def f70B : Code := match Try.f70.body with
  | some c => c
  | none => .skip
noncomputable def f70K : C.Sem := tab []
def f70h7_0 : List Sh := [.dead, .dead, .dead, .v (.int .i64), .dead, .dead, .dead, .v (.sl 5 ts_u8), .v (.int .i64), .v (.int .i64), .dead, .dead, .dead, .dead, .dead, .dead, .dead, .v (.int .i64), .dead, .dead, .dead, .dead, .dead, .dead, .dead, .dead, .dead, .dead, .dead, .dead, .dead]
def f70o7_0 : List (Nat × OSh) := []
def f70e7_0 (t : Int × List E_u8 × Int × Int × Int) : St := ⟨[.dead, .dead, .dead, .val (.int .i64) t.1, .dead, .dead, .dead, .val (.sl 5 ts_u8) t.2.1, .val (.int .i64) t.2.2.1, .val (.int .i64) t.2.2.2.1, .dead, .dead, .dead, .dead, .dead, .dead, .dead, .val (.int .i64) t.2.2.2.2, .dead, .dead, .dead, .dead, .dead, .dead, .dead, .dead, .dead, .dead, .dead, .dead, .dead], []⟩
def f70x7_0 (t : Int × List E_u8 × Int × Int) : St := ⟨[.dead, .dead, .dead, .val (.int .i64) t.1, .dead, .dead, .dead, .val (.sl 5 ts_u8) t.2.1, .val (.int .i64) t.2.2.1, .val (.int .i64) t.2.2.2, .dead, .dead, .dead, .dead, .dead, .dead, .dead, .dead, .dead, .dead, .dead, .dead, .dead, .dead, .dead, .dead, .dead, .dead, .dead, .dead, .dead], []⟩
def f70u7_0 (s : St) : Option (Int × List E_u8 × Int × Int × Int) := (unS f70h7_0 f70o7_0 s).map fun v => (v.1.2.2.2.1, v.1.2.2.2.2.2.2.2.1, v.1.2.2.2.2.2.2.2.2.1, v.1.2.2.2.2.2.2.2.2.2.1, v.1.2.2.2.2.2.2.2.2.2.2.2.2.2.2.2.2.2.1)
theorem f70un7_0 : ∀ (s : St) (t : Int × List E_u8 × Int × Int × Int), f70u7_0 s = some t → f70e7_0 t = s := fun s v h => by
  obtain ⟨u, hu, rfl⟩ := Option.map_eq_some_iff.1 h
  exact (show f70e7_0 (u.1.2.2.2.1, u.1.2.2.2.2.2.2.2.1, u.1.2.2.2.2.2.2.2.2.1, u.1.2.2.2.2.2.2.2.2.2.1, u.1.2.2.2.2.2.2.2.2.2.2.2.2.2.2.2.2.2.1) = mkS f70h7_0 f70o7_0 u by kernel_rfl).trans (mkS_un f70h7_0 f70o7_0 s u hu)
def f70u7 : St → Option (Int × List E_u8 × Int × Int × Int) := f70u7_0
def f70e7 : (Int × List E_u8 × Int × Int × Int) → St := f70e7_0
theorem f70un7 : ∀ (s : St) (t : Int × List E_u8 × Int × Int × Int), f70u7 s = some t → f70e7 t = s := f70un7_0
def f70h3_0 : List Sh := [.dead, .dead, .dead, .v (.int .i64), .dead, .dead, .dead, .v (.sl 5 ts_u8), .v (.int .i64), .v (.int .i64), .dead, .dead, .dead, .dead, .dead, .dead, .dead, .dead, .dead, .dead, .dead, .dead, .dead, .dead, .dead, .dead, .dead, .dead, .dead, .dead, .dead]
def f70o3_0 : List (Nat × OSh) := []
def f70e3_0 (t : Int × List E_u8 × Int × Int) : St := ⟨[.dead, .dead, .dead, .val (.int .i64) t.1, .dead, .dead, .dead, .val (.sl 5 ts_u8) t.2.1, .val (.int .i64) t.2.2.1, .val (.int .i64) t.2.2.2, .dead, .dead, .dead, .dead, .dead, .dead, .dead, .dead, .dead, .dead, .dead, .dead, .dead, .dead, .dead, .dead, .dead, .dead, .dead, .dead, .dead], []⟩
def f70x3_0 (t : Int) : St := ⟨[.dead, .dead, .dead, .val (.int .i64) t, .dead, .dead, .dead, .dead, .dead, .dead, .dead, .dead, .dead, .dead, .dead, .dead, .dead, .dead, .dead, .dead, .dead, .dead, .dead, .dead, .dead, .dead, .dead, .dead, .dead, .dead, .dead], []⟩
def f70u3_0 (s : St) : Option (Int × List E_u8 × Int × Int) := (unS f70h3_0 f70o3_0 s).map fun v => (v.1.2.2.2.1, v.1.2.2.2.2.2.2.2.1, v.1.2.2.2.2.2.2.2.2.1, v.1.2.2.2.2.2.2.2.2.2.1)
theorem f70un3_0 : ∀ (s : St) (t : Int × List E_u8 × Int × Int), f70u3_0 s = some t → f70e3_0 t = s := fun s v h => by
  obtain ⟨u, hu, rfl⟩ := Option.map_eq_some_iff.1 h
  exact (show f70e3_0 (u.1.2.2.2.1, u.1.2.2.2.2.2.2.2.1, u.1.2.2.2.2.2.2.2.2.1, u.1.2.2.2.2.2.2.2.2.2.1) = mkS f70h3_0 f70o3_0 u by kernel_rfl).trans (mkS_un f70h3_0 f70o3_0 s u hu)
def f70u3 : St → Option (Int × List E_u8 × Int × Int) := f70u3_0
def f70e3 : (Int × List E_u8 × Int × Int) → St := f70e3_0
theorem f70un3 : ∀ (s : St) (t : Int × List E_u8 × Int × Int), f70u3 s = some t → f70e3 t = s := f70un3_0
noncomputable def f70P : Lp := fun i s {_R} κ => bif Nat.beq i 3 then (f70u3 s).bind fun t => L_impl_Crc_3 (fun t => κ (some 0) (f70x3_0 t)) t else bif Nat.beq i 7 then (f70u7 s).bind fun t => L_impl_Crc_7 (fun t => κ (some 2) (f70x7_0 t)) t else none
noncomputable def f70c7 : Code := (loopsOf f70B).getD 1 .skip
theorem f70A7 : C.live 70 (firstRegion f70c7) = some ([3, 7, 8, 9, 17], [3, 7, 8, 9]) := by kernel_rfl
theorem f70B7 {R : Type} (κ : Option Nat → St → Option R) (s : St) : f70P (firstRegion f70c7) s κ = (f70u7 s).bind fun t => iter (S_impl_Crc_7 (fun t => κ (some 2) (f70x7_0 t))) FUEL t := by kernel_rfl
theorem f70C7 {R : Type} (κ : Option Nat → St → Option R) (again : St → Option R) (t : T_impl_Crc_7) : stepL C f70K f70P 70 f70c7 [3, 7, 8, 9, 17] [3, 7, 8, 9] κ again (f70e7 t) = S_impl_Crc_7 (fun t => κ (some 2) (f70x7_0 t)) (fun t => again (f70e7 t)) t := by kernel_rfl
theorem f70ok7 : LoopOk C f70K f70P 70 f70c7 := loop_ok f70A7 f70e7 f70u7 f70un7 (fun {_R} κ => S_impl_Crc_7 (fun t => κ (some 2) (f70x7_0 t))) (fun {_R} κ s => f70B7 κ s) (fun {_R} κ again t => f70C7 κ again t)
noncomputable def f70c3 : Code := (loopsOf f70B).getD 0 .skip
theorem f70A3 : C.live 70 (firstRegion f70c3) = some ([3, 7, 8, 9], [3]) := by kernel_rfl
theorem f70B3 {R : Type} (κ : Option Nat → St → Option R) (s : St) : f70P (firstRegion f70c3) s κ = (f70u3 s).bind fun t => iter (S_impl_Crc_3 (fun t => κ (some 0) (f70x3_0 t))) FUEL t := by kernel_rfl
theorem f70C3 {R : Type} (κ : Option Nat → St → Option R) (again : St → Option R) (t : T_impl_Crc_3) : stepL C f70K f70P 70 f70c3 [3, 7, 8, 9] [3] κ again (f70e3 t) = S_impl_Crc_3 (fun t => κ (some 0) (f70x3_0 t)) (fun t => again (f70e3 t)) t := by kernel_rfl
theorem f70ok3 : LoopOk C f70K f70P 70 f70c3 := loop_ok f70A3 f70e3 f70u3 f70un3 (fun {_R} κ => S_impl_Crc_3 (fun t => κ (some 0) (f70x3_0 t))) (fun {_R} κ s => f70B3 κ s) (fun {_R} κ again t => f70C3 κ again t)
theorem k70 : Contract C Try.prog f70K := contract_tab _ (fun p hp => by cases hp)
theorem ev70 (x : List E_u8) : evalB C f70K f70P 70 Try.f70 f70B ⟨[.v false [(.sl 5 ts_u8)] [false]], [⟨false, [(.int .i64)], [false]⟩], false⟩ [(.sl 5 ts_u8)] [(.int .i64)] x = F_impl_Crc x := by kernel_rfl
theorem ok70 : ContractAt C Try.prog 70 F_impl_Crc := fn_sound (lp := f70P) tok mixed k70 (by kernel_rfl) (fn := Try.f70) (c := f70B) (sg := ⟨[.v false [(.sl 5 ts_u8)] [false]], [⟨false, [(.int .i64)], [false]⟩], false⟩) Try.func70 (by decide) (by kernel_rfl) (by kernel_rfl) (by kernel_rfl) (fun c' hc' => by
    rw [show loopsOf f70B = [f70c3, f70c7] by kernel_rfl] at hc'
    simp only [List.mem_cons, List.mem_nil_iff, or_false] at hc'
    rcases hc' with rfl | rfl
    · exact f70ok3
    · exact f70ok7) (by decide) (by decide) (fun x y h => (ev70 x).trans h)

/-! ### 20: impl.PutSuper -/
noncomputable def F_impl_PutSuper (x : Int × Int × Int × Int × Int) : Option (List E_u8) :=
  Option.bind (F_impl_SuperOk (x.1, x.2.1, x.2.2.1, x.2.2.2.1, x.2.2.2.2)) fun r1 => bif (!r1) then some ([] : List E_u8) else Option.bind (F_impl_PutW (([] : List E_u8), x.1)) fun r2 => if (List.length r2 + List.length ([(Go.IntKind.wrap .u8 x.2.1)] : List E_u8)) * 1 < 140737488355328 then Option.bind (F_impl_PutW ((r2 ++ ([(Go.IntKind.wrap .u8 x.2.1)] : List E_u8)), x.2.2.1)) fun r3 => Option.bind (F_impl_put4 (r3, x.2.2.2.1)) fun r4 => Option.bind (F_impl_PutW (r4, x.2.2.2.2)) fun r5 => Option.bind (F_impl_Crc r5) fun r6 => Option.bind (F_impl_put4 (r5, r6)) fun r7 => some r7 else none
noncomputable def f20B : Code := match Try.f20.body with
  | some c => c
  | none => .skip
noncomputable def f20K : C.Sem := tab [⟨25, F_impl_SuperOk⟩, ⟨68, F_impl_PutW⟩, ⟨69, F_impl_put4⟩, ⟨70, F_impl_Crc⟩]
noncomputable def f20P : Lp := fun i s {_R} κ => none
theorem k20 : Contract C Try.prog f20K := contract_tab _ (fun p hp => by
    simp only [List.mem_cons, List.mem_nil_iff, or_false] at hp
    rcases hp with rfl | rfl | rfl | rfl
    · exact ok25
    · exact ok68
    · exact ok69
    · exact ok70)
theorem ev20 (x : Int × Int × Int × Int × Int) : evalB C f20K f20P 20 Try.f20 f20B ⟨[.v true [(.int .i64), (.int .i64), (.int .i64), (.int .i64), (.int .i64)] [false, false, false, false, false]], [⟨false, [(.sl 5 ts_u8)], [true]⟩], false⟩ [(.int .i64), (.int .i64), (.int .i64), (.int .i64), (.int .i64)] [(.sl 5 ts_u8)] x = F_impl_PutSuper x := by kernel_rfl
theorem ok20 : ContractAt C Try.prog 20 F_impl_PutSuper := fn_sound (lp := f20P) tok mixed k20 (by kernel_rfl) (fn := Try.f20) (c := f20B) (sg := ⟨[.v true [(.int .i64), (.int .i64), (.int .i64), (.int .i64), (.int .i64)] [false, false, false, false, false]], [⟨false, [(.sl 5 ts_u8)], [true]⟩], false⟩) Try.func20 (by decide) (by kernel_rfl) (by kernel_rfl) (by kernel_rfl) (fun c' hc' => by
    rw [show loopsOf f20B = [] by kernel_rfl] at hc'
    cases hc') (by decide) (by decide) (fun x y h => (ev20 x).trans h)

/-! ### 64: spec.l17Four -/
noncomputable def F_spec_l17Four (x : List E_u8 × Int) : Option (List E_u8) :=
  if (List.length ([] : List E_u8) + List.length x.1) * 1 < 140737488355328 then if (List.length (([] : List E_u8) ++ x.1) + List.length ([(Go.IntKind.wrap .u8 (Int.fdiv x.2 (2 ^ (min (Int.toNat (24 : Int)) (Go.IntKind.bits .i64))))), (Go.IntKind.wrap .u8 (Int.fdiv x.2 (2 ^ (min (Int.toNat (16 : Int)) (Go.IntKind.bits .i64))))), (Go.IntKind.wrap .u8 (Int.fdiv x.2 (2 ^ (min (Int.toNat (8 : Int)) (Go.IntKind.bits .i64))))), (Go.IntKind.wrap .u8 x.2)] : List E_u8)) * 1 < 140737488355328 then some ((([] : List E_u8) ++ x.1) ++ ([(Go.IntKind.wrap .u8 (Int.fdiv x.2 (2 ^ (min (Int.toNat (24 : Int)) (Go.IntKind.bits .i64))))), (Go.IntKind.wrap .u8 (Int.fdiv x.2 (2 ^ (min (Int.toNat (16 : Int)) (Go.IntKind.bits .i64))))), (Go.IntKind.wrap .u8 (Int.fdiv x.2 (2 ^ (min (Int.toNat (8 : Int)) (Go.IntKind.bits .i64))))), (Go.IntKind.wrap .u8 x.2)] : List E_u8)) else none else none
noncomputable def f64B : Code := match Try.f64.body with
  | some c => c
  | none => .skip
noncomputable def f64K : C.Sem := tab []
noncomputable def f64P : Lp := fun i s {_R} κ => none
theorem k64 : Contract C Try.prog f64K := contract_tab _ (fun p hp => by cases hp)
theorem ev64 (x : List E_u8 × Int) : evalB C f64K f64P 64 Try.f64 f64B ⟨[.v false [(.sl 5 ts_u8)] [false], .v false [(.int .i64)] [false]], [⟨false, [(.sl 5 ts_u8)], [true]⟩], false⟩ [(.sl 5 ts_u8), (.int .i64)] [(.sl 5 ts_u8)] x = F_spec_l17Four x := by kernel_rfl
theorem ok64 : ContractAt C Try.prog 64 F_spec_l17Four := fn_sound (lp := f64P) tok mixed k64 (by kernel_rfl) (fn := Try.f64) (c := f64B) (sg := ⟨[.v false [(.sl 5 ts_u8)] [false], .v false [(.int .i64)] [false]], [⟨false, [(.sl 5 ts_u8)], [true]⟩], false⟩) Try.func64 (by decide) (by kernel_rfl) (by kernel_rfl) (by kernel_rfl) (fun c' hc' => by
    rw [show loopsOf f64B = [] by kernel_rfl] at hc'
    cases hc') (by decide) (by decide) (fun x y h => (ev64 x).trans h)

/-! ### 65: spec.Crc -/
abbrev T_spec_Crc_7 : Type := List E_u8 × Int × Int × Int
noncomputable def S_spec_Crc_7 {R : Type} (k0 : (List E_u8 × Int × Int) → Option R) (again : T_spec_Crc_7 → Option R) (t7 : T_spec_Crc_7) : Option R :=
  bif (decide (t7.2.2.2 < (8 : Int))) then bif ((Go.bits .and .i64 t7.2.1 (1 : Int)) == (1 : Int)) then again (t7.1, (Go.bits .xor .i64 (Int.fdiv t7.2.1 (2 ^ (min (Int.toNat (1 : Int)) (Go.IntKind.bits .i64)))) (2197175160 : Int)), t7.2.2.1, (Go.IntKind.wrap .i64 (t7.2.2.2 + (1 : Int)))) else again (t7.1, (Int.fdiv t7.2.1 (2 ^ (min (Int.toNat (1 : Int)) (Go.IntKind.bits .i64)))), t7.2.2.1, (Go.IntKind.wrap .i64 (t7.2.2.2 + (1 : Int)))) else k0 (t7.1, t7.2.1, t7.2.2.1)
noncomputable def L_spec_Crc_7 {R : Type} (k0 : (List E_u8 × Int × Int) → Option R) (t : T_spec_Crc_7) : Option R := iter (S_spec_Crc_7 k0) FUEL t
abbrev T_spec_Crc_3 : Type := List E_u8 × Int × Int
noncomputable def S_spec_Crc_3 {R : Type} (k0 : Int → Option R) (again : T_spec_Crc_3 → Option R) (t3 : T_spec_Crc_3) : Option R :=
  bif (decide (t3.2.2 < ((List.length t3.1 : Nat) : Int))) then if (0 : Int) ≤ t3.2.2 then if t3.2.2 < ((List.length t3.1 : Nat) : Int) then L_spec_Crc_7 (fun x1 => again (x1.1, x1.2.1, (Go.IntKind.wrap .i64 (x1.2.2 + (1 : Int))))) (t3.1, (Go.bits .xor .i64 t3.2.1 (Go.IntKind.wrap .i64 (rd_u8 t3.1 t3.2.2))), t3.2.2, (0 : Int)) else none else none else k0 t3.2.1
noncomputable def L_spec_Crc_3 {R : Type} (k0 : Int → Option R) (t : T_spec_Crc_3) : Option R := iter (S_spec_Crc_3 k0) FUEL t
noncomputable def F_spec_Crc (x : List E_u8) : Option (Int) :=
  L_spec_Crc_3 (fun x2 => some (Go.bits .xor .i64 x2 (4294967295 : Int))) (x, (4294967295 : Int), (0 : Int))
noncomputable def f65B : Code := match Try.f65.body with
  | some c => c
  | none => .skip
noncomputable def f65K : C.Sem := tab []
def f65h7_0 : List Sh := [.v (.sl 5 ts_u8), .dead, .dead, .v (.int .i64), .v (.int .i64), .v (.int .i64), .dead, .dead, .dead, .dead, .dead, .dead, .dead, .dead, .dead, .dead, .dead, .dead, .dead, .dead, .dead, .dead, .dead, .dead, .dead, .dead, .dead, .dead, .dead, .dead, .dead, .dead, .dead]
def f65o7_0 : List (Nat × OSh) := []
def f65e7_0 (t : List E_u8 × Int × Int × Int) : St := ⟨[.val (.sl 5 ts_u8) t.1, .dead, .dead, .val (.int .i64) t.2.1, .val (.int .i64) t.2.2.1, .val (.int .i64) t.2.2.2, .dead, .dead, .dead, .dead, .dead, .dead, .dead, .dead, .dead, .dead, .dead, .dead, .dead, .dead, .dead, .dead, .dead, .dead, .dead, .dead, .dead, .dead, .dead, .dead, .dead, .dead, .dead], []⟩
def f65x7_0 (t : List E_u8 × Int × Int) : St := ⟨[.val (.sl 5 ts_u8) t.1, .dead, .dead, .val (.int .i64) t.2.1, .val (.int .i64) t.2.2, .dead, .dead, .dead, .dead, .dead, .dead, .dead, .dead, .dead, .dead, .dead, .dead, .dead, .dead, .dead, .dead, .dead, .dead, .dead, .dead, .dead, .dead, .dead, .dead, .dead, .dead, .dead, .dead], []⟩
def f65u7_0 (s : St) : Option (List E_u8 × Int × Int × Int) := (unS f65h7_0 f65o7_0 s).map fun v => (v.1.1, v.1.2.2.2.1, v.1.2.2.2.2.1, v.1.2.2.2.2.2.1)
theorem f65un7_0 : ∀ (s : St) (t : List E_u8 × Int × Int × Int), f65u7_0 s = some t → f65e7_0 t = s := fun s v h => by
  obtain ⟨u, hu, rfl⟩ := Option.map_eq_some_iff.1 h
  exact (show f65e7_0 (u.1.1, u.1.2.2.2.1, u.1.2.2.2.2.1, u.1.2.2.2.2.2.1) = mkS f65h7_0 f65o7_0 u by kernel_rfl).trans (mkS_un f65h7_0 f65o7_0 s u hu)
def f65u7 : St → Option (List E_u8 × Int × Int × Int) := f65u7_0
def f65e7 : (List E_u8 × Int × Int × Int) → St := f65e7_0
theorem f65un7 : ∀ (s : St) (t : List E_u8 × Int × Int × Int), f65u7 s = some t → f65e7 t = s := f65un7_0
def f65h3_0 : List Sh := [.v (.sl 5 ts_u8), .dead, .dead, .v (.int .i64), .v (.int .i64), .dead, .dead, .dead, .dead, .dead, .dead, .dead, .dead, .dead, .dead, .dead, .dead, .dead, .dead, .dead, .dead, .dead, .dead, .dead, .dead, .dead, .dead, .dead, .dead, .dead, .dead, .dead, .dead]
def f65o3_0 : List (Nat × OSh) := []
def f65e3_0 (t : List E_u8 × Int × Int) : St := ⟨[.val (.sl 5 ts_u8) t.1, .dead, .dead, .val (.int .i64) t.2.1, .val (.int .i64) t.2.2, .dead, .dead, .dead, .dead, .dead, .dead, .dead, .dead, .dead, .dead, .dead, .dead, .dead, .dead, .dead, .dead, .dead, .dead, .dead, .dead, .dead, .dead, .dead, .dead, .dead, .dead, .dead, .dead], []⟩
def f65x3_0 (t : Int) : St := ⟨[.dead, .dead, .dead, .val (.int .i64) t, .dead, .dead, .dead, .dead, .dead, .dead, .dead, .dead, .dead, .dead, .dead, .dead, .dead, .dead, .dead, .dead, .dead, .dead, .dead, .dead, .dead, .dead, .dead, .dead, .dead, .dead, .dead, .dead, .dead], []⟩
def f65u3_0 (s : St) : Option (List E_u8 × Int × Int) := (unS f65h3_0 f65o3_0 s).map fun v => (v.1.1, v.1.2.2.2.1, v.1.2.2.2.2.1)
theorem f65un3_0 : ∀ (s : St) (t : List E_u8 × Int × Int), f65u3_0 s = some t → f65e3_0 t = s := fun s v h => by
  obtain ⟨u, hu, rfl⟩ := Option.map_eq_some_iff.1 h
  exact (show f65e3_0 (u.1.1, u.1.2.2.2.1, u.1.2.2.2.2.1) = mkS f65h3_0 f65o3_0 u by kernel_rfl).trans (mkS_un f65h3_0 f65o3_0 s u hu)
def f65u3 : St → Option (List E_u8 × Int × Int) := f65u3_0
def f65e3 : (List E_u8 × Int × Int) → St := f65e3_0
theorem f65un3 : ∀ (s : St) (t : List E_u8 × Int × Int), f65u3 s = some t → f65e3 t = s := f65un3_0
noncomputable def f65P : Lp := fun i s {_R} κ => bif Nat.beq i 3 then (f65u3 s).bind fun t => L_spec_Crc_3 (fun t => κ (some 0) (f65x3_0 t)) t else bif Nat.beq i 7 then (f65u7 s).bind fun t => L_spec_Crc_7 (fun t => κ (some 2) (f65x7_0 t)) t else none
noncomputable def f65c7 : Code := (loopsOf f65B).getD 1 .skip
theorem f65A7 : C.live 65 (firstRegion f65c7) = some ([0, 3, 4, 5], [0, 3, 4]) := by kernel_rfl
theorem f65B7 {R : Type} (κ : Option Nat → St → Option R) (s : St) : f65P (firstRegion f65c7) s κ = (f65u7 s).bind fun t => iter (S_spec_Crc_7 (fun t => κ (some 2) (f65x7_0 t))) FUEL t := by kernel_rfl
theorem f65C7 {R : Type} (κ : Option Nat → St → Option R) (again : St → Option R) (t : T_spec_Crc_7) : stepL C f65K f65P 65 f65c7 [0, 3, 4, 5] [0, 3, 4] κ again (f65e7 t) = S_spec_Crc_7 (fun t => κ (some 2) (f65x7_0 t)) (fun t => again (f65e7 t)) t := by kernel_rfl
theorem f65ok7 : LoopOk C f65K f65P 65 f65c7 := loop_ok f65A7 f65e7 f65u7 f65un7 (fun {_R} κ => S_spec_Crc_7 (fun t => κ (some 2) (f65x7_0 t))) (fun {_R} κ s => f65B7 κ s) (fun {_R} κ again t => f65C7 κ again t)
noncomputable def f65c3 : Code := (loopsOf f65B).getD 0 .skip
theorem f65A3 : C.live 65 (firstRegion f65c3) = some ([0, 3, 4], [3]) := by kernel_rfl
theorem f65B3 {R : Type} (κ : Option Nat → St → Option R) (s : St) : f65P (firstRegion f65c3) s κ = (f65u3 s).bind fun t => iter (S_spec_Crc_3 (fun t => κ (some 0) (f65x3_0 t))) FUEL t := by kernel_rfl
theorem f65C3 {R : Type} (κ : Option Nat → St → Option R) (again : St → Option R) (t : T_spec_Crc_3) : stepL C f65K f65P 65 f65c3 [0, 3, 4] [3] κ again (f65e3 t) = S_spec_Crc_3 (fun t => κ (some 0) (f65x3_0 t)) (fun t => again (f65e3 t)) t := by kernel_rfl
theorem f65ok3 : LoopOk C f65K f65P 65 f65c3 := loop_ok f65A3 f65e3 f65u3 f65un3 (fun {_R} κ => S_spec_Crc_3 (fun t => κ (some 0) (f65x3_0 t))) (fun {_R} κ s => f65B3 κ s) (fun {_R} κ again t => f65C3 κ again t)
theorem k65 : Contract C Try.prog f65K := contract_tab _ (fun p hp => by cases hp)
theorem ev65 (x : List E_u8) : evalB C f65K f65P 65 Try.f65 f65B ⟨[.v false [(.sl 5 ts_u8)] [false]], [⟨false, [(.int .i64)], [false]⟩], false⟩ [(.sl 5 ts_u8)] [(.int .i64)] x = F_spec_Crc x := by kernel_rfl
theorem ok65 : ContractAt C Try.prog 65 F_spec_Crc := fn_sound (lp := f65P) tok mixed k65 (by kernel_rfl) (fn := Try.f65) (c := f65B) (sg := ⟨[.v false [(.sl 5 ts_u8)] [false]], [⟨false, [(.int .i64)], [false]⟩], false⟩) Try.func65 (by decide) (by kernel_rfl) (by kernel_rfl) (by kernel_rfl) (fun c' hc' => by
    rw [show loopsOf f65B = [f65c3, f65c7] by kernel_rfl] at hc'
    simp only [List.mem_cons, List.mem_nil_iff, or_false] at hc'
    rcases hc' with rfl | rfl
    · exact f65ok3
    · exact f65ok7) (by decide) (by decide) (fun x y h => (ev65 x).trans h)

/-! ### 73: spec.l1Bend -/
noncomputable def F_spec_l1Bend (x : List E_u8 × Int × Int × List E_u8) : Option (List E_u8 × List E_u8 × Int × Int) :=
  if (List.length ([] : List E_u8) + List.length x.2.2.2) * 1 < 140737488355328 then Option.bind (F_spec_l1Below (x.1, x.2.1, x.2.2.1, (5 : Int))) fun r1 => bif (r1.1 == (0 : Int)) then Option.bind (F_spec_l1Below (r1.2.1, r1.2.2.1, r1.2.2.2, (Go.IntKind.wrap .i64 (((List.length (([] : List E_u8) ++ x.2.2.2) : Nat) : Int) + (1 : Int))))) fun r2 => if (0 : Int) ≤ (0 : Int) then if (0 : Int) ≤ r2.1 then if r2.1 ≤ ((List.length (([] : List E_u8) ++ x.2.2.2) : Nat) : Int) then some ((List.take (Int.toNat r2.1) (([] : List E_u8) ++ x.2.2.2)), r2.2.1, r2.2.2.1, r2.2.2.2) else none else none else none else bif (r1.1 == (1 : Int)) then bif (decide (((List.length (([] : List E_u8) ++ x.2.2.2) : Nat) : Int) > (0 : Int))) then Option.bind (F_spec_l1Below (r1.2.1, r1.2.2.1, r1.2.2.2, ((List.length (([] : List E_u8) ++ x.2.2.2) : Nat) : Int))) fun r3 => if (0 : Int) ≤ r3.1 then if r3.1 < ((List.length (([] : List E_u8) ++ x.2.2.2) : Nat) : Int) then Option.bind (F_spec_l1Below (r3.2.1, r3.2.2.1, r3.2.2.2, (255 : Int))) fun r4 => if (0 : Int) ≤ r3.1 then if r3.1 < ((List.length (([] : List E_u8) ++ x.2.2.2) : Nat) : Int) then some ((List.set (([] : List E_u8) ++ x.2.2.2) (Int.toNat r3.1) (Go.bits .xor .u8 (rd_u8 (([] : List E_u8) ++ x.2.2.2) r3.1) (Go.IntKind.wrap .u8 (Go.IntKind.wrap .i64 ((1 : Int) + r4.1))))), r4.2.1, r4.2.2.1, r4.2.2.2) else none else none else none else none else some ((([] : List E_u8) ++ x.2.2.2), r1.2.1, r1.2.2.1, r1.2.2.2) else some ((([] : List E_u8) ++ x.2.2.2), r1.2.1, r1.2.2.1, r1.2.2.2) else none
noncomputable def f73B : Code := match Try.f73.body with
  | some c => c
  | none => .skip
noncomputable def f73K : C.Sem := tab [⟨78, F_spec_l1Below⟩]
noncomputable def f73P : Lp := fun i s {_R} κ => none
theorem k73 : Contract C Try.prog f73K := contract_tab _ (fun p hp => by
    simp only [List.mem_cons, List.mem_nil_iff, or_false] at hp
    rcases hp with rfl
    · exact ok78)
theorem ev73 (x : List E_u8 × Int × Int × List E_u8) : evalB C f73K f73P 73 Try.f73 f73B ⟨[.p none [(.sl 5 ts_u8), (.int .i64), (.int .i64)] [false, false, false], .v false [(.sl 5 ts_u8)] [false]], [⟨false, [(.sl 5 ts_u8)], [true]⟩], false⟩ [(.sl 5 ts_u8), (.int .i64), (.int .i64), (.sl 5 ts_u8)] [(.sl 5 ts_u8), (.sl 5 ts_u8), (.int .i64), (.int .i64)] x = F_spec_l1Bend x := by kernel_rfl
theorem ok73 : ContractAt C Try.prog 73 F_spec_l1Bend := fn_sound (lp := f73P) tok mixed k73 (by kernel_rfl) (fn := Try.f73) (c := f73B) (sg := ⟨[.p none [(.sl 5 ts_u8), (.int .i64), (.int .i64)] [false, false, false], .v false [(.sl 5 ts_u8)] [false]], [⟨false, [(.sl 5 ts_u8)], [true]⟩], false⟩) Try.func73 (by decide) (by kernel_rfl) (by kernel_rfl) (by kernel_rfl) (fun c' hc' => by
    rw [show loopsOf f73B = [] by kernel_rfl] at hc'
    cases hc') (by decide) (by decide) (fun x y h => (ev73 x).trans h)

/-! ### 86: spec.l1In -/
noncomputable def F_spec_l1In (x : Int × Int × Int) : Option (Bool) :=
  Option.bind (bif (decide (x.1 ≥ x.2.1)) then some (decide (x.1 ≤ x.2.2)) else some false) fun u1 => some u1
noncomputable def f86B : Code := match Try.f86.body with
  | some c => c
  | none => .skip
noncomputable def f86K : C.Sem := tab []
noncomputable def f86P : Lp := fun i s {_R} κ => none
theorem k86 : Contract C Try.prog f86K := contract_tab _ (fun p hp => by cases hp)
theorem ev86 (x : Int × Int × Int) : evalB C f86K f86P 86 Try.f86 f86B ⟨[.v false [(.int .i64)] [false], .v false [(.int .i64)] [false], .v false [(.int .i64)] [false]], [⟨false, [.bool], [false]⟩], false⟩ [(.int .i64), (.int .i64), (.int .i64)] [.bool] x = F_spec_l1In x := by kernel_rfl
theorem ok86 : ContractAt C Try.prog 86 F_spec_l1In := fn_sound (lp := f86P) tok mixed k86 (by kernel_rfl) (fn := Try.f86) (c := f86B) (sg := ⟨[.v false [(.int .i64)] [false], .v false [(.int .i64)] [false], .v false [(.int .i64)] [false]], [⟨false, [.bool], [false]⟩], false⟩) Try.func86 (by decide) (by kernel_rfl) (by kernel_rfl) (by kernel_rfl) (fun c' hc' => by
    rw [show loopsOf f86B = [] by kernel_rfl] at hc'
    cases hc') (by decide) (by decide) (fun x y h => (ev86 x).trans h)

/-! ### 26: spec.SuperOk -/
noncomputable def F_spec_SuperOk (x : Int × Int × Int × Int × Int) : Option (Bool) :=
  Option.bind (F_spec_l1In (x.1, (1 : Int), (60000 : Int))) fun r1 => Option.bind (bif r1 then Option.bind (F_spec_l1In (x.2.1, (0 : Int), (1 : Int))) fun r3 => some r3 else some false) fun u2 => Option.bind (bif u2 then Option.bind (F_spec_l1In (x.2.2.1, (0 : Int), (1680 : Int))) fun r5 => some r5 else some false) fun u4 => Option.bind (bif u4 then Option.bind (F_spec_l1In (x.2.2.2.1, (0 : Int), (4294967295 : Int))) fun r7 => some r7 else some false) fun u6 => Option.bind (bif u6 then Option.bind (F_spec_l1In (x.2.2.2.2, (1 : Int), (60000 : Int))) fun r9 => some r9 else some false) fun u8 => some u8
noncomputable def f26B : Code := match Try.f26.body with
  | some c => c
  | none => .skip
noncomputable def f26K : C.Sem := tab [⟨86, F_spec_l1In⟩]
noncomputable def f26P : Lp := fun i s {_R} κ => none
theorem k26 : Contract C Try.prog f26K := contract_tab _ (fun p hp => by
    simp only [List.mem_cons, List.mem_nil_iff, or_false] at hp
    rcases hp with rfl
    · exact ok86)
theorem ev26 (x : Int × Int × Int × Int × Int) : evalB C f26K f26P 26 Try.f26 f26B ⟨[.v true [(.int .i64), (.int .i64), (.int .i64), (.int .i64), (.int .i64)] [false, false, false, false, false]], [⟨false, [.bool], [false]⟩], false⟩ [(.int .i64), (.int .i64), (.int .i64), (.int .i64), (.int .i64)] [.bool] x = F_spec_SuperOk x := by kernel_rfl
theorem ok26 : ContractAt C Try.prog 26 F_spec_SuperOk := fn_sound (lp := f26P) tok mixed k26 (by kernel_rfl) (fn := Try.f26) (c := f26B) (sg := ⟨[.v true [(.int .i64), (.int .i64), (.int .i64), (.int .i64), (.int .i64)] [false, false, false, false, false]], [⟨false, [.bool], [false]⟩], false⟩) Try.func26 (by decide) (by kernel_rfl) (by kernel_rfl) (by kernel_rfl) (fun c' hc' => by
    rw [show loopsOf f26B = [] by kernel_rfl] at hc'
    cases hc') (by decide) (by decide) (fun x y h => (ev26 x).trans h)

/-! ### 63: spec.PutW -/
noncomputable def F_spec_PutW (x : List E_u8 × Int) : Option (List E_u8) :=
  if (List.length ([] : List E_u8) + List.length x.1) * 1 < 140737488355328 then if (List.length (([] : List E_u8) ++ x.1) + List.length ([(Go.IntKind.wrap .u8 (Int.fdiv x.2 (2 ^ (min (Int.toNat (8 : Int)) (Go.IntKind.bits .i64))))), (Go.IntKind.wrap .u8 x.2)] : List E_u8)) * 1 < 140737488355328 then some ((([] : List E_u8) ++ x.1) ++ ([(Go.IntKind.wrap .u8 (Int.fdiv x.2 (2 ^ (min (Int.toNat (8 : Int)) (Go.IntKind.bits .i64))))), (Go.IntKind.wrap .u8 x.2)] : List E_u8)) else none else none
noncomputable def f63B : Code := match Try.f63.body with
  | some c => c
  | none => .skip
noncomputable def f63K : C.Sem := tab []
noncomputable def f63P : Lp := fun i s {_R} κ => none
theorem k63 : Contract C Try.prog f63K := contract_tab _ (fun p hp => by cases hp)
theorem ev63 (x : List E_u8 × Int) : evalB C f63K f63P 63 Try.f63 f63B ⟨[.v false [(.sl 5 ts_u8)] [false], .v false [(.int .i64)] [false]], [⟨false, [(.sl 5 ts_u8)], [true]⟩], false⟩ [(.sl 5 ts_u8), (.int .i64)] [(.sl 5 ts_u8)] x = F_spec_PutW x := by kernel_rfl
theorem ok63 : ContractAt C Try.prog 63 F_spec_PutW := fn_sound (lp := f63P) tok mixed k63 (by kernel_rfl) (fn := Try.f63) (c := f63B) (sg := ⟨[.v false [(.sl 5 ts_u8)] [false], .v false [(.int .i64)] [false]], [⟨false, [(.sl 5 ts_u8)], [true]⟩], false⟩) Try.func63 (by decide) (by kernel_rfl) (by kernel_rfl) (by kernel_rfl) (fun c' hc' => by
    rw [show loopsOf f63B = [] by kernel_rfl] at hc'
    cases hc') (by decide) (by decide) (fun x y h => (ev63 x).trans h)

/-! ### 74: spec.PutSuper -/
noncomputable def F_spec_PutSuper (x : Int × Int × Int × Int × Int) : Option (List E_u8) :=
  Option.bind (F_spec_SuperOk (x.1, x.2.1, x.2.2.1, x.2.2.2.1, x.2.2.2.2)) fun r1 => bif (!r1) then some ([] : List E_u8) else Option.bind (F_spec_PutW (([] : List E_u8), x.1)) fun r2 => if (List.length r2 + List.length ([(Go.IntKind.wrap .u8 x.2.1)] : List E_u8)) * 1 < 140737488355328 then Option.bind (F_spec_PutW ((r2 ++ ([(Go.IntKind.wrap .u8 x.2.1)] : List E_u8)), x.2.2.1)) fun r3 => Option.bind (F_spec_l17Four (r3, x.2.2.2.1)) fun r4 => Option.bind (F_spec_PutW (r4, x.2.2.2.2)) fun r5 => Option.bind (F_spec_Crc r5) fun r6 => Option.bind (F_spec_l17Four (r5, r6)) fun r7 => some r7 else none
noncomputable def f74B : Code := match Try.f74.body with
  | some c => c
  | none => .skip
noncomputable def f74K : C.Sem := tab [⟨26, F_spec_SuperOk⟩, ⟨63, F_spec_PutW⟩, ⟨64, F_spec_l17Four⟩, ⟨65, F_spec_Crc⟩]
noncomputable def f74P : Lp := fun i s {_R} κ => none
theorem k74 : Contract C Try.prog f74K := contract_tab _ (fun p hp => by
    simp only [List.mem_cons, List.mem_nil_iff, or_false] at hp
    rcases hp with rfl | rfl | rfl | rfl
    · exact ok26
    · exact ok63
    · exact ok64
    · exact ok65)
theorem ev74 (x : Int × Int × Int × Int × Int) : evalB C f74K f74P 74 Try.f74 f74B ⟨[.v true [(.int .i64), (.int .i64), (.int .i64), (.int .i64), (.int .i64)] [false, false, false, false, false]], [⟨false, [(.sl 5 ts_u8)], [true]⟩], false⟩ [(.int .i64), (.int .i64), (.int .i64), (.int .i64), (.int .i64)] [(.sl 5 ts_u8)] x = F_spec_PutSuper x := by kernel_rfl
theorem ok74 : ContractAt C Try.prog 74 F_spec_PutSuper := fn_sound (lp := f74P) tok mixed k74 (by kernel_rfl) (fn := Try.f74) (c := f74B) (sg := ⟨[.v true [(.int .i64), (.int .i64), (.int .i64), (.int .i64), (.int .i64)] [false, false, false, false, false]], [⟨false, [(.sl 5 ts_u8)], [true]⟩], false⟩) Try.func74 (by decide) (by kernel_rfl) (by kernel_rfl) (by kernel_rfl) (fun c' hc' => by
    rw [show loopsOf f74B = [] by kernel_rfl] at hc'
    cases hc') (by decide) (by decide) (fun x y h => (ev74 x).trans h)

/-! ### 76: spec.l1Once -/
noncomputable def F_spec_l1Once (x : List E_u8 × Int × Int × Int) : Option (Bool × List E_u8 × Int × Int) :=
  Option.bind (F_spec_l1Below (x.1, x.2.1, x.2.2.1, x.2.2.2)) fun r1 => some ((r1.1 == (0 : Int)), r1.2.1, r1.2.2.1, r1.2.2.2)
noncomputable def f76B : Code := match Try.f76.body with
  | some c => c
  | none => .skip
noncomputable def f76K : C.Sem := tab [⟨78, F_spec_l1Below⟩]
noncomputable def f76P : Lp := fun i s {_R} κ => none
theorem k76 : Contract C Try.prog f76K := contract_tab _ (fun p hp => by
    simp only [List.mem_cons, List.mem_nil_iff, or_false] at hp
    rcases hp with rfl
    · exact ok78)
theorem ev76 (x : List E_u8 × Int × Int × Int) : evalB C f76K f76P 76 Try.f76 f76B ⟨[.p none [(.sl 5 ts_u8), (.int .i64), (.int .i64)] [false, false, false], .v false [(.int .i64)] [false]], [⟨false, [.bool], [false]⟩], false⟩ [(.sl 5 ts_u8), (.int .i64), (.int .i64), (.int .i64)] [.bool, (.sl 5 ts_u8), (.int .i64), (.int .i64)] x = F_spec_l1Once x := by kernel_rfl
theorem ok76 : ContractAt C Try.prog 76 F_spec_l1Once := fn_sound (lp := f76P) tok mixed k76 (by kernel_rfl) (fn := Try.f76) (c := f76B) (sg := ⟨[.p none [(.sl 5 ts_u8), (.int .i64), (.int .i64)] [false, false, false], .v false [(.int .i64)] [false]], [⟨false, [.bool], [false]⟩], false⟩) Try.func76 (by decide) (by kernel_rfl) (by kernel_rfl) (by kernel_rfl) (fun c' hc' => by
    rw [show loopsOf f76B = [] by kernel_rfl] at hc'
    cases hc') (by decide) (by decide) (fun x y h => (ev76 x).trans h)

/-! ### 21: spec.DrawGetSuper -/
noncomputable def F_spec_DrawGetSuper (x : List E_u8) : Option (List E_u8) :=
  Option.bind (F_spec_l1New x) fun r1 => Option.bind (F_spec_l18Super (r1.1, r1.2.1, r1.2.2)) fun r2 => Option.bind (F_spec_PutSuper (r2.1, r2.2.1, r2.2.2.1, r2.2.2.2.1, r2.2.2.2.2.1)) fun r3 => Option.bind (F_spec_l1Bend (r2.2.2.2.2.2.1, r2.2.2.2.2.2.2.1, r2.2.2.2.2.2.2.2, r3)) fun r4 => Option.bind (F_spec_l1Once (r4.2.1, r4.2.2.1, r4.2.2.2, (6 : Int))) fun r5 => Option.bind (bif r5.1 then some (((List.length r4.1 : Nat) : Int) == (15 : Int)) else some false) fun u6 => bif u6 then if (0 : Int) ≤ (0 : Int) then if (0 : Int) ≤ (11 : Int) then if (11 : Int) ≤ ((List.length r4.1 : Nat) : Int) then Option.bind (F_spec_l1Below (r5.2.1, r5.2.2.1, r5.2.2.2, (11 : Int))) fun r7 => Option.bind (F_spec_l1Int (r7.2.1, r7.2.2.1, r7.2.2.2, ([(0 : Int), (1 : Int), (2 : Int), (255 : Int)] : List E_i64))) fun r8 => if (0 : Int) ≤ r7.1 then if r7.1 < ((List.length (List.take (Int.toNat (11 : Int)) r4.1) : Nat) : Int) then Option.bind (F_spec_Crc (List.set (List.take (Int.toNat (11 : Int)) r4.1) (Int.toNat r7.1) (Go.IntKind.wrap .u8 r8.1))) fun r9 => Option.bind (F_spec_l17Four ((List.set (List.take (Int.toNat (11 : Int)) r4.1) (Int.toNat r7.1) (Go.IntKind.wrap .u8 r8.1)), r9)) fun r10 => some r10 else none else none else none else none else none else some r4.1
noncomputable def f21B : Code := match Try.f21.body with
  | some c => c
  | none => .skip
noncomputable def f21K : C.Sem := tab [⟨64, F_spec_l17Four⟩, ⟨65, F_spec_Crc⟩, ⟨71, F_spec_l1New⟩, ⟨73, F_spec_l1Bend⟩, ⟨74, F_spec_PutSuper⟩, ⟨75, F_spec_l18Super⟩, ⟨76, F_spec_l1Once⟩, ⟨77, F_spec_l1Int⟩, ⟨78, F_spec_l1Below⟩]
noncomputable def f21P : Lp := fun i s {_R} κ => none
theorem k21 : Contract C Try.prog f21K := contract_tab _ (fun p hp => by
    simp only [List.mem_cons, List.mem_nil_iff, or_false] at hp
    rcases hp with rfl | rfl | rfl | rfl | rfl | rfl | rfl | rfl | rfl
    · exact ok64
    · exact ok65
    · exact ok71
    · exact ok73
    · exact ok74
    · exact ok75
    · exact ok76
    · exact ok77
    · exact ok78)
theorem ev21 (x : List E_u8) : evalB C f21K f21P 21 Try.f21 f21B ⟨[.v false [(.sl 5 ts_u8)] [false]], [⟨false, [(.sl 5 ts_u8)], [true]⟩], false⟩ [(.sl 5 ts_u8)] [(.sl 5 ts_u8)] x = F_spec_DrawGetSuper x := by kernel_rfl
theorem ok21 : ContractAt C Try.prog 21 F_spec_DrawGetSuper := fn_sound (lp := f21P) tok mixed k21 (by kernel_rfl) (fn := Try.f21) (c := f21B) (sg := ⟨[.v false [(.sl 5 ts_u8)] [false]], [⟨false, [(.sl 5 ts_u8)], [true]⟩], false⟩) Try.func21 (by decide) (by kernel_rfl) (by kernel_rfl) (by kernel_rfl) (fun c' hc' => by
    rw [show loopsOf f21B = [] by kernel_rfl] at hc'
    cases hc') (by decide) (by decide) (fun x y h => (ev21 x).trans h)

/-! ### 133: impl.GetW -/
noncomputable def F_impl_GetW (x : List E_u8 × Int) : Option (Int × Int × Bool) :=
  Option.bind (bif (decide (x.2 < (0 : Int))) then some true else some (decide (x.2 > (Go.IntKind.wrap .i64 (((List.length x.1 : Nat) : Int) - (2 : Int)))))) fun u1 => bif u1 then some ((0 : Int), (0 : Int), false) else if (0 : Int) ≤ x.2 then if x.2 < ((List.length x.1 : Nat) : Int) then if (0 : Int) ≤ (Go.IntKind.wrap .i64 (x.2 + (1 : Int))) then if (Go.IntKind.wrap .i64 (x.2 + (1 : Int))) < ((List.length x.1 : Nat) : Int) then some ((Go.bits .or .i64 (Go.IntKind.wrap .i64 ((Go.IntKind.wrap .i64 (rd_u8 x.1 x.2)) * 2 ^ (min (Int.toNat (8 : Int)) (Go.IntKind.bits .i64)))) (Go.IntKind.wrap .i64 (rd_u8 x.1 (Go.IntKind.wrap .i64 (x.2 + (1 : Int)))))), (Go.IntKind.wrap .i64 (x.2 + (2 : Int))), true) else none else none else none else none
noncomputable def f133B : Code := match Try.f133.body with
  | some c => c
  | none => .skip
noncomputable def f133K : C.Sem := tab []
noncomputable def f133P : Lp := fun i s {_R} κ => none
theorem k133 : Contract C Try.prog f133K := contract_tab _ (fun p hp => by cases hp)
theorem ev133 (x : List E_u8 × Int) : evalB C f133K f133P 133 Try.f133 f133B ⟨[.v false [(.sl 5 ts_u8)] [false], .v false [(.int .i64)] [false]], [⟨false, [(.int .i64)], [false]⟩, ⟨false, [(.int .i64)], [false]⟩, ⟨false, [.bool], [false]⟩], false⟩ [(.sl 5 ts_u8), (.int .i64)] [(.int .i64), (.int .i64), .bool] x = F_impl_GetW x := by kernel_rfl
theorem ok133 : ContractAt C Try.prog 133 F_impl_GetW := fn_sound (lp := f133P) tok mixed k133 (by kernel_rfl) (fn := Try.f133) (c := f133B) (sg := ⟨[.v false [(.sl 5 ts_u8)] [false], .v false [(.int .i64)] [false]], [⟨false, [(.int .i64)], [false]⟩, ⟨false, [(.int .i64)], [false]⟩, ⟨false, [.bool], [false]⟩], false⟩) Try.func133 (by decide) (by kernel_rfl) (by kernel_rfl) (by kernel_rfl) (fun c' hc' => by
    rw [show loopsOf f133B = [] by kernel_rfl] at hc'
    cases hc') (by decide) (by decide) (fun x y h => (ev133 x).trans h)

/-! ### 79: impl.reader).word -/
noncomputable def F_impl_reader_word (x : List E_u8 × Int × Bool) : Option (Int × List E_u8 × Int × Bool) :=
  Option.bind (F_impl_GetW (x.1, x.2.1)) fun r1 => Option.bind (bif x.2.2 then some true else some (!r1.2.2)) fun u2 => bif u2 then some ((0 : Int), x.1, x.2.1, true) else some (r1.1, x.1, r1.2.1, x.2.2)
noncomputable def f79B : Code := match Try.f79.body with
  | some c => c
  | none => .skip
noncomputable def f79K : C.Sem := tab [⟨133, F_impl_GetW⟩]
noncomputable def f79P : Lp := fun i s {_R} κ => none
theorem k79 : Contract C Try.prog f79K := contract_tab _ (fun p hp => by
    simp only [List.mem_cons, List.mem_nil_iff, or_false] at hp
    rcases hp with rfl
    · exact ok133)
theorem ev79 (x : List E_u8 × Int × Bool) : evalB C f79K f79P 79 Try.f79 f79B ⟨[.p none [(.sl 5 ts_u8), (.int .i64), .bool] [false, false, false]], [⟨false, [(.int .i64)], [false]⟩], false⟩ [(.sl 5 ts_u8), (.int .i64), .bool] [(.int .i64), (.sl 5 ts_u8), (.int .i64), .bool] x = F_impl_reader_word x := by kernel_rfl
theorem ok79 : ContractAt C Try.prog 79 F_impl_reader_word := fn_sound (lp := f79P) tok mixed k79 (by kernel_rfl) (fn := Try.f79) (c := f79B) (sg := ⟨[.p none [(.sl 5 ts_u8), (.int .i64), .bool] [false, false, false]], [⟨false, [(.int .i64)], [false]⟩], false⟩) Try.func79 (by decide) (by kernel_rfl) (by kernel_rfl) (by kernel_rfl) (fun c' hc' => by
    rw [show loopsOf f79B = [] by kernel_rfl] at hc'
    cases hc') (by decide) (by decide) (fun x y h => (ev79 x).trans h)

/-! ### 80: impl.reader).one -/
noncomputable def F_impl_reader_one (x : List E_u8 × Int × Bool) : Option (Int × List E_u8 × Int × Bool) :=
  Option.bind (bif x.2.2 then some true else some (decide (x.2.1 < (0 : Int)))) fun u1 => Option.bind (bif u1 then some true else some (decide (x.2.1 ≥ ((List.length x.1 : Nat) : Int)))) fun u2 => bif u2 then some ((0 : Int), x.1, x.2.1, true) else if (0 : Int) ≤ (Go.IntKind.wrap .i64 ((Go.IntKind.wrap .i64 (x.2.1 + (1 : Int))) - (1 : Int))) then if (Go.IntKind.wrap .i64 ((Go.IntKind.wrap .i64 (x.2.1 + (1 : Int))) - (1 : Int))) < ((List.length x.1 : Nat) : Int) then some ((Go.IntKind.wrap .i64 (rd_u8 x.1 (Go.IntKind.wrap .i64 ((Go.IntKind.wrap .i64 (x.2.1 + (1 : Int))) - (1 : Int))))), x.1, (Go.IntKind.wrap .i64 (x.2.1 + (1 : Int))), x.2.2) else none else none
noncomputable def f80B : Code := match Try.f80.body with
  | some c => c
  | none => .skip
noncomputable def f80K : C.Sem := tab []
noncomputable def f80P : Lp := fun i s {_R} κ => none
theorem k80 : Contract C Try.prog f80K := contract_tab _ (fun p hp => by cases hp)
theorem ev80 (x : List E_u8 × Int × Bool) : evalB C f80K f80P 80 Try.f80 f80B ⟨[.p none [(.sl 5 ts_u8), (.int .i64), .bool] [false, false, false]], [⟨false, [(.int .i64)], [false]⟩], false⟩ [(.sl 5 ts_u8), (.int .i64), .bool] [(.int .i64), (.sl 5 ts_u8), (.int .i64), .bool] x = F_impl_reader_one x := by kernel_rfl
theorem ok80 : ContractAt C Try.prog 80 F_impl_reader_one := fn_sound (lp := f80P) tok mixed k80 (by kernel_rfl) (fn := Try.f80) (c := f80B) (sg := ⟨[.p none [(.sl 5 ts_u8), (.int .i64), .bool] [false, false, false]], [⟨false, [(.int .i64)], [false]⟩], false⟩) Try.func80 (by decide) (by kernel_rfl) (by kernel_rfl) (by kernel_rfl) (fun c' hc' => by
    rw [show loopsOf f80B = [] by kernel_rfl] at hc'
    cases hc') (by decide) (by decide) (fun x y h => (ev80 x).trans h)

/-! ### 81: impl.reader).four -/
noncomputable def F_impl_reader_four (x : List E_u8 × Int × Bool) : Option (Int × List E_u8 × Int × Bool) :=
  Option.bind (F_impl_reader_word (x.1, x.2.1, x.2.2)) fun r1 => Option.bind (F_impl_reader_word (r1.2.1, r1.2.2.1, r1.2.2.2)) fun r2 => some ((Go.bits .or .i64 (Go.IntKind.wrap .i64 (r1.1 * 2 ^ (min (Int.toNat (16 : Int)) (Go.IntKind.bits .i64)))) r2.1), r2.2.1, r2.2.2.1, r2.2.2.2)
noncomputable def f81B : Code := match Try.f81.body with
  | some c => c
  | none => .skip
noncomputable def f81K : C.Sem := tab [⟨79, F_impl_reader_word⟩]
noncomputable def f81P : Lp := fun i s {_R} κ => none
theorem k81 : Contract C Try.prog f81K := contract_tab _ (fun p hp => by
    simp only [List.mem_cons, List.mem_nil_iff, or_false] at hp
    rcases hp with rfl
    · exact ok79)
theorem ev81 (x : List E_u8 × Int × Bool) : evalB C f81K f81P 81 Try.f81 f81B ⟨[.p none [(.sl 5 ts_u8), (.int .i64), .bool] [false, false, false]], [⟨false, [(.int .i64)], [false]⟩], false⟩ [(.sl 5 ts_u8), (.int .i64), .bool] [(.int .i64), (.sl 5 ts_u8), (.int .i64), .bool] x = F_impl_reader_four x := by kernel_rfl
theorem ok81 : ContractAt C Try.prog 81 F_impl_reader_four := fn_sound (lp := f81P) tok mixed k81 (by kernel_rfl) (fn := Try.f81) (c := f81B) (sg := ⟨[.p none [(.sl 5 ts_u8), (.int .i64), .bool] [false, false, false]], [⟨false, [(.int .i64)], [false]⟩], false⟩) Try.func81 (by decide) (by kernel_rfl) (by kernel_rfl) (by kernel_rfl) (fun c' hc' => by
    rw [show loopsOf f81B = [] by kernel_rfl] at hc'
    cases hc') (by decide) (by decide) (fun x y h => (ev81 x).trans h)

/-! ### 82: impl.reader).done -/
noncomputable def F_impl_reader_done (x : List E_u8 × Int × Bool) : Option (Bool × List E_u8 × Int × Bool) :=
  Option.bind (bif (!x.2.2) then some (x.2.1 == ((List.length x.1 : Nat) : Int)) else some false) fun u1 => some (u1, x.1, x.2.1, x.2.2)
noncomputable def f82B : Code := match Try.f82.body with
  | some c => c
  | none => .skip
noncomputable def f82K : C.Sem := tab []
noncomputable def f82P : Lp := fun i s {_R} κ => none
theorem k82 : Contract C Try.prog f82K := contract_tab _ (fun p hp => by cases hp)
theorem ev82 (x : List E_u8 × Int × Bool) : evalB C f82K f82P 82 Try.f82 f82B ⟨[.p none [(.sl 5 ts_u8), (.int .i64), .bool] [false, false, false]], [⟨false, [.bool], [false]⟩], false⟩ [(.sl 5 ts_u8), (.int .i64), .bool] [.bool, (.sl 5 ts_u8), (.int .i64), .bool] x = F_impl_reader_done x := by kernel_rfl
theorem ok82 : ContractAt C Try.prog 82 F_impl_reader_done := fn_sound (lp := f82P) tok mixed k82 (by kernel_rfl) (fn := Try.f82) (c := f82B) (sg := ⟨[.p none [(.sl 5 ts_u8), (.int .i64), .bool] [false, false, false]], [⟨false, [.bool], [false]⟩], false⟩) Try.func82 (by decide) (by kernel_rfl) (by kernel_rfl) (by kernel_rfl) (fun c' hc' => by
    rw [show loopsOf f82B = [] by kernel_rfl] at hc'
    cases hc') (by decide) (by decide) (fun x y h => (ev82 x).trans h)

/-! ### 22: impl.GetSuper -/
noncomputable def F_impl_GetSuper (x : List E_u8) : Option (Int × Int × Int × Int × Int × Bool) :=
  Option.bind (F_impl_reader_word (x, (0 : Int), false)) fun r1 => Option.bind (F_impl_reader_one (r1.2.1, r1.2.2.1, r1.2.2.2)) fun r2 => Option.bind (F_impl_reader_word (r2.2.1, r2.2.2.1, r2.2.2.2)) fun r3 => Option.bind (F_impl_reader_four (r3.2.1, r3.2.2.1, r3.2.2.2)) fun r4 => Option.bind (F_impl_reader_word (r4.2.1, r4.2.2.1, r4.2.2.2)) fun r5 => Option.bind (F_impl_reader_four (r5.2.1, r5.2.2.1, r5.2.2.2)) fun r6 => Option.bind (F_impl_reader_done (r6.2.1, r6.2.2.1, r6.2.2.2)) fun r7 => Option.bind (bif (!r7.1) then some true else Option.bind (F_impl_SuperOk (r1.1, r2.1, r3.1, r4.1, r5.1)) fun r9 => some (!r9)) fun u8 => Option.bind (bif u8 then some true else if (0 : Int) ≤ (0 : Int) then if (0 : Int) ≤ r5.2.2.1 then if r5.2.2.1 ≤ ((List.length x : Nat) : Int) then Option.bind (F_impl_Crc (List.drop (Int.toNat (0 : Int)) (List.take (Int.toNat r5.2.2.1) x))) fun r11 => some (r6.1 != r11) else none else none else none) fun u10 => bif u10 then some ((0 : Int), (0 : Int), (0 : Int), (0 : Int), (0 : Int), false) else some (r1.1, r2.1, r3.1, r4.1, r5.1, true)
noncomputable def f22B : Code := match Try.f22.body with
  | some c => c
  | none => .skip
noncomputable def f22K : C.Sem := tab [⟨25, F_impl_SuperOk⟩, ⟨70, F_impl_Crc⟩, ⟨79, F_impl_reader_word⟩, ⟨80, F_impl_reader_one⟩, ⟨81, F_impl_reader_four⟩, ⟨82, F_impl_reader_done⟩]
noncomputable def f22P : Lp := fun i s {_R} κ => none
theorem k22 : Contract C Try.prog f22K := contract_tab _ (fun p hp => by
    simp only [List.mem_cons, List.mem_nil_iff, or_false] at hp
    rcases hp with rfl | rfl | rfl | rfl | rfl | rfl
    · exact ok25
    · exact ok70
    · exact ok79
    · exact ok80
    · exact ok81
    · exact ok82)
theorem ev22 (x : List E_u8) : evalB C f22K f22P 22 Try.f22 f22B ⟨[.v false [(.sl 5 ts_u8)] [false]], [⟨true, [(.int .i64), (.int .i64), (.int .i64), (.int .i64), (.int .i64)], [false, false, false, false, false]⟩, ⟨false, [.bool], [false]⟩], false⟩ [(.sl 5 ts_u8)] [(.int .i64), (.int .i64), (.int .i64), (.int .i64), (.int .i64), .bool] x = F_impl_GetSuper x := by kernel_rfl
theorem ok22 : ContractAt C Try.prog 22 F_impl_GetSuper := fn_sound (lp := f22P) tok mixed k22 (by kernel_rfl) (fn := Try.f22) (c := f22B) (sg := ⟨[.v false [(.sl 5 ts_u8)] [false]], [⟨true, [(.int .i64), (.int .i64), (.int .i64), (.int .i64), (.int .i64)], [false, false, false, false, false]⟩, ⟨false, [.bool], [false]⟩], false⟩) Try.func22 (by decide) (by kernel_rfl) (by kernel_rfl) (by kernel_rfl) (fun c' hc' => by
    rw [show loopsOf f22B = [] by kernel_rfl] at hc'
    cases hc') (by decide) (by decide) (fun x y h => (ev22 x).trans h)

/-! ### 83: spec.l17Get -/
noncomputable def F_spec_l17Get (x : List E_u8 × Int) : Option (Int) :=
  if (0 : Int) ≤ x.2 then if x.2 < ((List.length x.1 : Nat) : Int) then if (0 : Int) ≤ (Go.IntKind.wrap .i64 (x.2 + (1 : Int))) then if (Go.IntKind.wrap .i64 (x.2 + (1 : Int))) < ((List.length x.1 : Nat) : Int) then if (0 : Int) ≤ (Go.IntKind.wrap .i64 (x.2 + (2 : Int))) then if (Go.IntKind.wrap .i64 (x.2 + (2 : Int))) < ((List.length x.1 : Nat) : Int) then if (0 : Int) ≤ (Go.IntKind.wrap .i64 (x.2 + (3 : Int))) then if (Go.IntKind.wrap .i64 (x.2 + (3 : Int))) < ((List.length x.1 : Nat) : Int) then some (Go.bits .or .i64 (Go.bits .or .i64 (Go.bits .or .i64 (Go.IntKind.wrap .i64 ((Go.IntKind.wrap .i64 (rd_u8 x.1 x.2)) * 2 ^ (min (Int.toNat (24 : Int)) (Go.IntKind.bits .i64)))) (Go.IntKind.wrap .i64 ((Go.IntKind.wrap .i64 (rd_u8 x.1 (Go.IntKind.wrap .i64 (x.2 + (1 : Int))))) * 2 ^ (min (Int.toNat (16 : Int)) (Go.IntKind.bits .i64))))) (Go.IntKind.wrap .i64 ((Go.IntKind.wrap .i64 (rd_u8 x.1 (Go.IntKind.wrap .i64 (x.2 + (2 : Int))))) * 2 ^ (min (Int.toNat (8 : Int)) (Go.IntKind.bits .i64))))) (Go.IntKind.wrap .i64 (rd_u8 x.1 (Go.IntKind.wrap .i64 (x.2 + (3 : Int)))))) else none else none else none else none else none else none else none else none
noncomputable def f83B : Code := match Try.f83.body with
  | some c => c
  | none => .skip
noncomputable def f83K : C.Sem := tab []
noncomputable def f83P : Lp := fun i s {_R} κ => none
theorem k83 : Contract C Try.prog f83K := contract_tab _ (fun p hp => by cases hp)
theorem ev83 (x : List E_u8 × Int) : evalB C f83K f83P 83 Try.f83 f83B ⟨[.v false [(.sl 5 ts_u8)] [false], .v false [(.int .i64)] [false]], [⟨false, [(.int .i64)], [false]⟩], false⟩ [(.sl 5 ts_u8), (.int .i64)] [(.int .i64)] x = F_spec_l17Get x := by kernel_rfl
theorem ok83 : ContractAt C Try.prog 83 F_spec_l17Get := fn_sound (lp := f83P) tok mixed k83 (by kernel_rfl) (fn := Try.f83) (c := f83B) (sg := ⟨[.v false [(.sl 5 ts_u8)] [false], .v false [(.int .i64)] [false]], [⟨false, [(.int .i64)], [false]⟩], false⟩) Try.func83 (by decide) (by kernel_rfl) (by kernel_rfl) (by kernel_rfl) (fun c' hc' => by
    rw [show loopsOf f83B = [] by kernel_rfl] at hc'
    cases hc') (by decide) (by decide) (fun x y h => (ev83 x).trans h)

/-! ### 84: spec.GetW -/
noncomputable def F_spec_GetW (x : List E_u8 × Int) : Option (Int × Int × Bool) :=
  Option.bind (F_spec_l1In (x.2, (0 : Int), (Go.IntKind.wrap .i64 (((List.length x.1 : Nat) : Int) - (2 : Int))))) fun r1 => bif (!r1) then some ((0 : Int), (0 : Int), false) else if (0 : Int) ≤ x.2 then if x.2 < ((List.length x.1 : Nat) : Int) then if (0 : Int) ≤ (Go.IntKind.wrap .i64 (x.2 + (1 : Int))) then if (Go.IntKind.wrap .i64 (x.2 + (1 : Int))) < ((List.length x.1 : Nat) : Int) then some ((Go.bits .or .i64 (Go.IntKind.wrap .i64 ((Go.IntKind.wrap .i64 (rd_u8 x.1 x.2)) * 2 ^ (min (Int.toNat (8 : Int)) (Go.IntKind.bits .i64)))) (Go.IntKind.wrap .i64 (rd_u8 x.1 (Go.IntKind.wrap .i64 (x.2 + (1 : Int)))))), (Go.IntKind.wrap .i64 (x.2 + (2 : Int))), true) else none else none else none else none
noncomputable def f84B : Code := match Try.f84.body with
  | some c => c
  | none => .skip
noncomputable def f84K : C.Sem := tab [⟨86, F_spec_l1In⟩]
noncomputable def f84P : Lp := fun i s {_R} κ => none
theorem k84 : Contract C Try.prog f84K := contract_tab _ (fun p hp => by
    simp only [List.mem_cons, List.mem_nil_iff, or_false] at hp
    rcases hp with rfl
    · exact ok86)
theorem ev84 (x : List E_u8 × Int) : evalB C f84K f84P 84 Try.f84 f84B ⟨[.v false [(.sl 5 ts_u8)] [false], .v false [(.int .i64)] [false]], [⟨false, [(.int .i64)], [false]⟩, ⟨false, [(.int .i64)], [false]⟩, ⟨false, [.bool], [false]⟩], false⟩ [(.sl 5 ts_u8), (.int .i64)] [(.int .i64), (.int .i64), .bool] x = F_spec_GetW x := by kernel_rfl
theorem ok84 : ContractAt C Try.prog 84 F_spec_GetW := fn_sound (lp := f84P) tok mixed k84 (by kernel_rfl) (fn := Try.f84) (c := f84B) (sg := ⟨[.v false [(.sl 5 ts_u8)] [false], .v false [(.int .i64)] [false]], [⟨false, [(.int .i64)], [false]⟩, ⟨false, [(.int .i64)], [false]⟩, ⟨false, [.bool], [false]⟩], false⟩) Try.func84 (by decide) (by kernel_rfl) (by kernel_rfl) (by kernel_rfl) (fun c' hc' => by
    rw [show loopsOf f84B = [] by kernel_rfl] at hc'
    cases hc') (by decide) (by decide) (fun x y h => (ev84 x).trans h)

/-! ### 23: spec.GetSuper -/
noncomputable def F_spec_GetSuper (x : List E_u8) : Option (Int × Int × Int × Int × Int × Bool) :=
  Option.bind (bif (((List.length x : Nat) : Int) != (15 : Int)) then some true else Option.bind (F_spec_l17Get (x, (11 : Int))) fun r2 => if (0 : Int) ≤ (0 : Int) then if (0 : Int) ≤ (11 : Int) then if (11 : Int) ≤ ((List.length x : Nat) : Int) then Option.bind (F_spec_Crc (List.drop (Int.toNat (0 : Int)) (List.take (Int.toNat (11 : Int)) x))) fun r3 => some (r2 != r3) else none else none else none) fun u1 => bif u1 then some ((0 : Int), (0 : Int), (0 : Int), (0 : Int), (0 : Int), false) else Option.bind (F_spec_GetW (x, (0 : Int))) fun r4 => Option.bind (F_spec_GetW (x, (3 : Int))) fun r5 => Option.bind (F_spec_GetW (x, (9 : Int))) fun r6 => if (0 : Int) ≤ (2 : Int) then if (2 : Int) < ((List.length x : Nat) : Int) then Option.bind (F_spec_l17Get (x, (5 : Int))) fun r7 => Option.bind (F_spec_SuperOk (r4.1, (Go.IntKind.wrap .i64 (rd_u8 x (2 : Int))), r5.1, r7, r6.1)) fun r8 => bif (!r8) then some ((0 : Int), (0 : Int), (0 : Int), (0 : Int), (0 : Int), false) else some (r4.1, (Go.IntKind.wrap .i64 (rd_u8 x (2 : Int))), r5.1, r7, r6.1, true) else none else none
noncomputable def f23B : Code := match Try.f23.body with
  | some c => c
  | none => .skip
noncomputable def f23K : C.Sem := tab [⟨26, F_spec_SuperOk⟩, ⟨65, F_spec_Crc⟩, ⟨83, F_spec_l17Get⟩, ⟨84, F_spec_GetW⟩]
noncomputable def f23P : Lp := fun i s {_R} κ => none
theorem k23 : Contract C Try.prog f23K := contract_tab _ (fun p hp => by
    simp only [List.mem_cons, List.mem_nil_iff, or_false] at hp
    rcases hp with rfl | rfl | rfl | rfl
    · exact ok26
    · exact ok65
    · exact ok83
    · exact ok84)
theorem ev23 (x : List E_u8) : evalB C f23K f23P 23 Try.f23 f23B ⟨[.v false [(.sl 5 ts_u8)] [false]], [⟨true, [(.int .i64), (.int .i64), (.int .i64), (.int .i64), (.int .i64)], [false, false, false, false, false]⟩, ⟨false, [.bool], [false]⟩], false⟩ [(.sl 5 ts_u8)] [(.int .i64), (.int .i64), (.int .i64), (.int .i64), (.int .i64), .bool] x = F_spec_GetSuper x := by kernel_rfl
theorem ok23 : ContractAt C Try.prog 23 F_spec_GetSuper := fn_sound (lp := f23P) tok mixed k23 (by kernel_rfl) (fn := Try.f23) (c := f23B) (sg := ⟨[.v false [(.sl 5 ts_u8)] [false]], [⟨true, [(.int .i64), (.int .i64), (.int .i64), (.int .i64), (.int .i64)], [false, false, false, false, false]⟩, ⟨false, [.bool], [false]⟩], false⟩) Try.func23 (by decide) (by kernel_rfl) (by kernel_rfl) (by kernel_rfl) (fun c' hc' => by
    rw [show loopsOf f23B = [] by kernel_rfl] at hc'
    cases hc') (by decide) (by decide) (fun x y h => (ev23 x).trans h)

/-! ### 24: spec.DrawPartAt -/
noncomputable def F_spec_DrawPartAt (x : List E_u8) : Option (Int × Int) :=
  Option.bind (F_spec_l1New x) fun r1 => Option.bind (F_spec_l1Int (r1.1, r1.2.1, r1.2.2, ([(0 : Int), (1 : Int), (2 : Int), (-1 : Int)] : List E_i64))) fun r2 => Option.bind (F_spec_l1Int (r2.2.1, r2.2.2.1, r2.2.2.2, ([(0 : Int), (1 : Int), (23 : Int), (24 : Int), (-1 : Int)] : List E_i64))) fun r3 => some (r2.1, r3.1)
noncomputable def f24B : Code := match Try.f24.body with
  | some c => c
  | none => .skip
noncomputable def f24K : C.Sem := tab [⟨71, F_spec_l1New⟩, ⟨77, F_spec_l1Int⟩]
noncomputable def f24P : Lp := fun i s {_R} κ => none
theorem k24 : Contract C Try.prog f24K := contract_tab _ (fun p hp => by
    simp only [List.mem_cons, List.mem_nil_iff, or_false] at hp
    rcases hp with rfl | rfl
    · exact ok71
    · exact ok77)
theorem ev24 (x : List E_u8) : evalB C f24K f24P 24 Try.f24 f24B ⟨[.v false [(.sl 5 ts_u8)] [false]], [⟨false, [(.int .i64)], [false]⟩, ⟨false, [(.int .i64)], [false]⟩], false⟩ [(.sl 5 ts_u8)] [(.int .i64), (.int .i64)] x = F_spec_DrawPartAt x := by kernel_rfl
theorem ok24 : ContractAt C Try.prog 24 F_spec_DrawPartAt := fn_sound (lp := f24P) tok mixed k24 (by kernel_rfl) (fn := Try.f24) (c := f24B) (sg := ⟨[.v false [(.sl 5 ts_u8)] [false]], [⟨false, [(.int .i64)], [false]⟩, ⟨false, [(.int .i64)], [false]⟩], false⟩) Try.func24 (by decide) (by kernel_rfl) (by kernel_rfl) (by kernel_rfl) (fun c' hc' => by
    rw [show loopsOf f24B = [] by kernel_rfl] at hc'
    cases hc') (by decide) (by decide) (fun x y h => (ev24 x).trans h)

/-! ### 27: impl.PartAt -/
noncomputable def F_impl_PartAt (x : Int × Int) : Option (Int) :=
  Option.bind (F_impl_within (x.1, (0 : Int), (1 : Int))) fun r1 => Option.bind (bif (!r1) then some true else Option.bind (F_impl_within (x.2, (0 : Int), (23 : Int))) fun r3 => some (!r3)) fun u2 => bif u2 then some (-1 : Int) else some (Go.IntKind.wrap .i64 ((Go.IntKind.wrap .i64 ((8 : Int) + (Go.IntKind.wrap .i64 (x.1 * (24 : Int))))) + x.2))
noncomputable def f27B : Code := match Try.f27.body with
  | some c => c
  | none => .skip
noncomputable def f27K : C.Sem := tab [⟨85, F_impl_within⟩]
noncomputable def f27P : Lp := fun i s {_R} κ => none
theorem k27 : Contract C Try.prog f27K := contract_tab _ (fun p hp => by
    simp only [List.mem_cons, List.mem_nil_iff, or_false] at hp
    rcases hp with rfl
    · exact ok85)
theorem ev27 (x : Int × Int) : evalB C f27K f27P 27 Try.f27 f27B ⟨[.v false [(.int .i64)] [false], .v false [(.int .i64)] [false]], [⟨false, [(.int .i64)], [false]⟩], false⟩ [(.int .i64), (.int .i64)] [(.int .i64)] x = F_impl_PartAt x := by kernel_rfl
theorem ok27 : ContractAt C Try.prog 27 F_impl_PartAt := fn_sound (lp := f27P) tok mixed k27 (by kernel_rfl) (fn := Try.f27) (c := f27B) (sg := ⟨[.v false [(.int .i64)] [false], .v false [(.int .i64)] [false]], [⟨false, [(.int .i64)], [false]⟩], false⟩) Try.func27 (by decide) (by kernel_rfl) (by kernel_rfl) (by kernel_rfl) (fun c' hc' => by
    rw [show loopsOf f27B = [] by kernel_rfl] at hc'
    cases hc') (by decide) (by decide) (fun x y h => (ev27 x).trans h)

/-! ### 28: spec.PartAt -/
noncomputable def F_spec_PartAt (x : Int × Int) : Option (Int) :=
  Option.bind (F_spec_l1In (x.1, (0 : Int), (1 : Int))) fun r1 => Option.bind (bif (!r1) then some true else Option.bind (F_spec_l1In (x.2, (0 : Int), (23 : Int))) fun r3 => some (!r3)) fun u2 => bif u2 then some (-1 : Int) else some (Go.IntKind.wrap .i64 ((Go.IntKind.wrap .i64 ((8 : Int) + (Go.IntKind.wrap .i64 (x.1 * (24 : Int))))) + x.2))
noncomputable def f28B : Code := match Try.f28.body with
  | some c => c
  | none => .skip
noncomputable def f28K : C.Sem := tab [⟨86, F_spec_l1In⟩]
noncomputable def f28P : Lp := fun i s {_R} κ => none
theorem k28 : Contract C Try.prog f28K := contract_tab _ (fun p hp => by
    simp only [List.mem_cons, List.mem_nil_iff, or_false] at hp
    rcases hp with rfl
    · exact ok86)
theorem ev28 (x : Int × Int) : evalB C f28K f28P 28 Try.f28 f28B ⟨[.v false [(.int .i64)] [false], .v false [(.int .i64)] [false]], [⟨false, [(.int .i64)], [false]⟩], false⟩ [(.int .i64), (.int .i64)] [(.int .i64)] x = F_spec_PartAt x := by kernel_rfl
theorem ok28 : ContractAt C Try.prog 28 F_spec_PartAt := fn_sound (lp := f28P) tok mixed k28 (by kernel_rfl) (fn := Try.f28) (c := f28B) (sg := ⟨[.v false [(.int .i64)] [false], .v false [(.int .i64)] [false]], [⟨false, [(.int .i64)], [false]⟩], false⟩) Try.func28 (by decide) (by kernel_rfl) (by kernel_rfl) (by kernel_rfl) (fun c' hc' => by
    rw [show loopsOf f28B = [] by kernel_rfl] at hc'
    cases hc') (by decide) (by decide) (fun x y h => (ev28 x).trans h)

/-! ### 29: laws.at -/
noncomputable def F_laws_at (x : List E_u8 × Int) : Option (Int) :=
  bif (decide (x.2 < ((List.length x.1 : Nat) : Int))) then if (0 : Int) ≤ x.2 then if x.2 < ((List.length x.1 : Nat) : Int) then some (Go.IntKind.wrap .i64 (rd_u8 x.1 x.2)) else none else none else some (Int.tmod (Go.IntKind.wrap .i64 ((Go.IntKind.wrap .i64 (x.2 * (31 : Int))) + (Go.IntKind.wrap .i64 (((List.length x.1 : Nat) : Int) * (7 : Int))))) (256 : Int))
noncomputable def f29B : Code := match Try.f29.body with
  | some c => c
  | none => .skip
noncomputable def f29K : C.Sem := tab []
noncomputable def f29P : Lp := fun i s {_R} κ => none
theorem k29 : Contract C Try.prog f29K := contract_tab _ (fun p hp => by cases hp)
theorem ev29 (x : List E_u8 × Int) : evalB C f29K f29P 29 Try.f29 f29B ⟨[.v false [(.sl 5 ts_u8)] [false], .v false [(.int .i64)] [false]], [⟨false, [(.int .i64)], [false]⟩], false⟩ [(.sl 5 ts_u8), (.int .i64)] [(.int .i64)] x = F_laws_at x := by kernel_rfl
theorem ok29 : ContractAt C Try.prog 29 F_laws_at := fn_sound (lp := f29P) tok mixed k29 (by kernel_rfl) (fn := Try.f29) (c := f29B) (sg := ⟨[.v false [(.sl 5 ts_u8)] [false], .v false [(.int .i64)] [false]], [⟨false, [(.int .i64)], [false]⟩], false⟩) Try.func29 (by decide) (by kernel_rfl) (by kernel_rfl) (by kernel_rfl) (fun c' hc' => by
    rw [show loopsOf f29B = [] by kernel_rfl] at hc'
    cases hc') (by decide) (by decide) (fun x y h => (ev29 x).trans h)

/-! ### 4: laws.FnSupers -/
noncomputable def F_laws_FnSupers (x : List E_u8) : Option (Bool) :=
  Option.bind (F_laws_big x) fun r1 => bif r1 then some true else Option.bind (F_spec_DrawPutSuper x) fun r2 => Option.bind (F_impl_PutSuper (r2.1, r2.2.1, r2.2.2.1, r2.2.2.2.1, r2.2.2.2.2)) fun r3 => Option.bind (F_spec_DrawGetSuper x) fun r4 => Option.bind (F_impl_GetSuper r4) fun r5 => Option.bind (F_spec_GetSuper r4) fun r6 => Option.bind (F_spec_DrawPartAt x) fun r7 => Option.bind (bif (!(r5.2.2.2.2.2 == r6.2.2.2.2.2)) then some true else Option.bind (bif r5.2.2.2.2.2 then Option.bind (F_impl_PutSuper (r5.1, r5.2.1, r5.2.2.1, r5.2.2.2.1, r5.2.2.2.2.1)) fun r10 => some (!((ByteArray.toList (textOf r10)) == (ByteArray.toList (textOf r4)))) else some false) fun u9 => some u9) fun u8 => Option.bind (bif u8 then some true else Option.bind (F_impl_SuperOk (r2.1, r2.2.1, r2.2.2.1, r2.2.2.2.1, r2.2.2.2.2)) fun r12 => Option.bind (F_spec_SuperOk (r2.1, r2.2.1, r2.2.2.1, r2.2.2.2.1, r2.2.2.2.2)) fun r13 => some (!(r12 == r13))) fun u11 => Option.bind (bif u11 then some true else Option.bind (F_impl_PartAt (r7.1, r7.2)) fun r15 => Option.bind (F_spec_PartAt (r7.1, r7.2)) fun r16 => some (r15 != r16)) fun u14 => bif u14 then some false else Option.bind (F_impl_SuperOk (r2.1, r2.2.1, r2.2.2.1, r2.2.2.2.1, r2.2.2.2.2)) fun r17 => bif (!r17) then some (((List.length r3 : Nat) : Int) == (0 : Int)) else Option.bind (F_impl_GetSuper r3) fun r18 => Option.bind (F_laws_at (x, (2 : Int))) fun r19 => if ((List.length r3 : Nat) : Int) = 0 then none else if (0 : Int) ≤ (Int.tmod r19 ((List.length r3 : Nat) : Int)) then if (Int.tmod r19 ((List.length r3 : Nat) : Int)) < ((List.length r3 : Nat) : Int) then Option.bind (F_laws_at (x, (3 : Int))) fun r20 => if (0 : Int) ≤ (Int.tmod r19 ((List.length r3 : Nat) : Int)) then if (Int.tmod r19 ((List.length r3 : Nat) : Int)) < ((List.length r3 : Nat) : Int) then Option.bind (F_impl_GetSuper (List.set r3 (Int.toNat (Int.tmod r19 ((List.length r3 : Nat) : Int))) (Go.bits .xor .u8 (rd_u8 r3 (Int.tmod r19 ((List.length r3 : Nat) : Int))) (Go.IntKind.wrap .u8 (Go.IntKind.wrap .i64 ((1 : Int) + (Int.tmod r20 (255 : Int)))))))) fun r21 => Option.bind (bif r18.2.2.2.2.2 then some ((r18.1 == r2.1) && ((r18.2.1 == r2.2.1) && ((r18.2.2.1 == r2.2.2.1) && ((r18.2.2.2.1 == r2.2.2.2.1) && ((r18.2.2.2.2.1 == r2.2.2.2.2) && true))))) else some false) fun u22 => Option.bind (bif u22 then some (!r21.2.2.2.2.2) else some false) fun u23 => some u23 else none else none else none else none
noncomputable def f4B : Code := match Try.f4.body with
  | some c => c
  | none => .skip
noncomputable def f4K : C.Sem := tab [⟨18, F_laws_big⟩, ⟨19, F_spec_DrawPutSuper⟩, ⟨20, F_impl_PutSuper⟩, ⟨21, F_spec_DrawGetSuper⟩, ⟨22, F_impl_GetSuper⟩, ⟨23, F_spec_GetSuper⟩, ⟨24, F_spec_DrawPartAt⟩, ⟨25, F_impl_SuperOk⟩, ⟨26, F_spec_SuperOk⟩, ⟨27, F_impl_PartAt⟩, ⟨28, F_spec_PartAt⟩, ⟨29, F_laws_at⟩]
noncomputable def f4P : Lp := fun i s {_R} κ => none
theorem k4 : Contract C Try.prog f4K := contract_tab _ (fun p hp => by
    simp only [List.mem_cons, List.mem_nil_iff, or_false] at hp
    rcases hp with rfl | rfl | rfl | rfl | rfl | rfl | rfl | rfl | rfl | rfl | rfl | rfl
    · exact ok18
    · exact ok19
    · exact ok20
    · exact ok21
    · exact ok22
    · exact ok23
    · exact ok24
    · exact ok25
    · exact ok26
    · exact ok27
    · exact ok28
    · exact ok29)
theorem ev4 (x : List E_u8) : evalB C f4K f4P 4 Try.f4 f4B ⟨[.v false [(.sl 5 ts_u8)] [false]], [⟨false, [.bool], [false]⟩], false⟩ [(.sl 5 ts_u8)] [.bool] x = F_laws_FnSupers x := by kernel_rfl
theorem ok4 : ContractAt C Try.prog 4 F_laws_FnSupers := fn_sound (lp := f4P) tok mixed k4 (by kernel_rfl) (fn := Try.f4) (c := f4B) (sg := ⟨[.v false [(.sl 5 ts_u8)] [false]], [⟨false, [.bool], [false]⟩], false⟩) Try.func4 (by decide) (by kernel_rfl) (by kernel_rfl) (by kernel_rfl) (fun c' hc' => by
    rw [show loopsOf f4B = [] by kernel_rfl] at hc'
    cases hc') (by decide) (by decide) (fun x y h => (ev4 x).trans h)
end Go.Proofs.Ytmanmgafjbnakaa.XU
