/- What functions compute, and that they do; part 1 of C; by a program (dec.py). No condition. -/
import Derived.Test.YtmofdkmggfdciaaGreatDC0
set_option linter.all false
namespace Go.Proofs.YtmofdkmggfdciaaGreat.XC
open Go.Proofs.YtmofdkmggfdciaaGreat.R
set_option maxRecDepth 100000
abbrev T_spec_PoolOk_2 : Type := Int × List E_i64 × List E_Node × List E_Age × List E_Cell × List E_Vol × Int
noncomputable def S_spec_PoolOk_2 {R : Type} (k0 : (Bool × List E_i64 × List E_Node × List E_Age × List E_Cell × List E_Vol × Int) → Option R) (k1 : (List E_i64 × List E_Node × List E_Age × List E_Cell × List E_Vol × Int) → Option R) (again : T_spec_PoolOk_2 → Option R) (t2 : T_spec_PoolOk_2) : Option R :=
  bif (decide (t2.1 < ((List.length t2.2.2.2.1 : Nat) : Int))) then if (0 : Int) ≤ t2.1 then if t2.1 < ((List.length t2.2.2.2.1 : Nat) : Int) then bif (decide ((rd_Age t2.2.2.2.1 t2.1).1 ≥ t2.2.2.2.2.2.2)) then k0 (false, t2.2.1, t2.2.2.1, t2.2.2.2.1, t2.2.2.2.2.1, t2.2.2.2.2.2.1, t2.2.2.2.2.2.2) else again ((Go.IntKind.wrap .i64 (t2.1 + (1 : Int))), t2.2.1, t2.2.2.1, t2.2.2.2.1, t2.2.2.2.2.1, t2.2.2.2.2.2.1, t2.2.2.2.2.2.2) else none else none else k1 (t2.2.1, t2.2.2.1, t2.2.2.2.1, t2.2.2.2.2.1, t2.2.2.2.2.2.1, t2.2.2.2.2.2.2)
noncomputable def L_spec_PoolOk_2 {R : Type} (k0 : (Bool × List E_i64 × List E_Node × List E_Age × List E_Cell × List E_Vol × Int) → Option R) (k1 : (List E_i64 × List E_Node × List E_Age × List E_Cell × List E_Vol × Int) → Option R) (t : T_spec_PoolOk_2) : Option R := iter (S_spec_PoolOk_2 k0 k1) FUEL t
noncomputable def F_spec_PoolOk (x : List E_i64 × List E_Node × List E_Age × List E_Cell × List E_Vol × Int) : Option (Bool) :=
  L_spec_PoolOk_2 (fun x1 => some x1.1) (fun x2 => Option.bind (F_spec_TreeOk (x2.1, x2.2.1)) fun r3 => Option.bind (bif r3 then Option.bind (F_spec_AgesOk x2.2.2.1) fun r5 => some r5 else some false) fun u4 => Option.bind (bif u4 then Option.bind (F_spec_CellsOk x2.2.2.2.1) fun r7 => some r7 else some false) fun u6 => Option.bind (bif u6 then Option.bind (F_spec_l1In (x2.2.2.2.2.2, (1 : Int), (61 : Int))) fun r9 => some r9 else some false) fun u8 => Option.bind (bif u8 then Option.bind (F_spec_l10Vols (x2.1, x2.2.1, x2.2.2.1, x2.2.2.2.1, x2.2.2.2.2.1, x2.2.2.2.2.2)) fun r11 => some r11 else some false) fun u10 => Option.bind (bif u10 then Option.bind (F_spec_l10Keys (x2.1, x2.2.1, x2.2.2.1, x2.2.2.2.1, x2.2.2.2.2.1, x2.2.2.2.2.2)) fun r13 => some r13 else some false) fun u12 => some u12) ((0 : Int), x.1, x.2.1, x.2.2.1, x.2.2.2.1, x.2.2.2.2.1, x.2.2.2.2.2)
noncomputable def f45B : Code := match Tryz.f45.body with
  | some c => c
  | none => .skip
noncomputable def f45K : C.Sem := tab [⟨39, F_spec_l1In⟩, ⟨108, F_spec_TreeOk⟩, ⟨109, F_spec_AgesOk⟩, ⟨110, F_spec_CellsOk⟩, ⟨111, F_spec_l10Vols⟩, ⟨112, F_spec_l10Keys⟩]
def f45h2_0 : List Sh := [.dead, .box 1 0, .dead, .v (.int .i64), .dead, .dead, .dead, .dead, .dead, .dead, .dead, .dead, .dead, .dead, .dead, .dead, .dead, .dead, .dead, .dead, .dead, .dead, .dead, .dead, .dead, .dead, .dead, .dead, .dead, .dead, .dead, .dead, .dead, .dead, .dead, .dead, .dead, .dead, .dead, .dead, .dead, .dead, .dead, .dead, .dead, .dead]
def f45o2_0 : List (Nat × OSh) := [(1, .box [.v (.sl 3 ts_i64), .v (.sl 97 ts_Node), .v (.sl 88 ts_Age), .v (.sl 94 ts_Cell), .v (.sl 90 ts_Vol), .v (.int .i64)])]
def f45e2_0 (t : Int × List E_i64 × List E_Node × List E_Age × List E_Cell × List E_Vol × Int) : St := ⟨[.dead, .box 1 0, .dead, .val (.int .i64) t.1, .dead, .dead, .dead, .dead, .dead, .dead, .dead, .dead, .dead, .dead, .dead, .dead, .dead, .dead, .dead, .dead, .dead, .dead, .dead, .dead, .dead, .dead, .dead, .dead, .dead, .dead, .dead, .dead, .dead, .dead, .dead, .dead, .dead, .dead, .dead, .dead, .dead, .dead, .dead, .dead, .dead, .dead], [(1, .box [.val (.sl 3 ts_i64) t.2.1, .val (.sl 97 ts_Node) t.2.2.1, .val (.sl 88 ts_Age) t.2.2.2.1, .val (.sl 94 ts_Cell) t.2.2.2.2.1, .val (.sl 90 ts_Vol) t.2.2.2.2.2.1, .val (.int .i64) t.2.2.2.2.2.2])]⟩
def f45x2_0 (t : Bool × List E_i64 × List E_Node × List E_Age × List E_Cell × List E_Vol × Int) : St := ⟨[.dead, .box 1 0, .val .bool t.1, .dead, .dead, .dead, .dead, .dead, .dead, .dead, .dead, .dead, .dead, .dead, .dead, .dead, .dead, .dead, .dead, .dead, .dead, .dead, .dead, .dead, .dead, .dead, .dead, .dead, .dead, .dead, .dead, .dead, .dead, .dead, .dead, .dead, .dead, .dead, .dead, .dead, .dead, .dead, .dead, .dead, .dead, .dead], [(1, .box [.val (.sl 3 ts_i64) t.2.1, .val (.sl 97 ts_Node) t.2.2.1, .val (.sl 88 ts_Age) t.2.2.2.1, .val (.sl 94 ts_Cell) t.2.2.2.2.1, .val (.sl 90 ts_Vol) t.2.2.2.2.2.1, .val (.int .i64) t.2.2.2.2.2.2])]⟩
def f45x2_1 (t : List E_i64 × List E_Node × List E_Age × List E_Cell × List E_Vol × Int) : St := ⟨[.dead, .box 1 0, .dead, .dead, .dead, .dead, .dead, .dead, .dead, .dead, .dead, .dead, .dead, .dead, .dead, .dead, .dead, .dead, .dead, .dead, .dead, .dead, .dead, .dead, .dead, .dead, .dead, .dead, .dead, .dead, .dead, .dead, .dead, .dead, .dead, .dead, .dead, .dead, .dead, .dead, .dead, .dead, .dead, .dead, .dead, .dead], [(1, .box [.val (.sl 3 ts_i64) t.1, .val (.sl 97 ts_Node) t.2.1, .val (.sl 88 ts_Age) t.2.2.1, .val (.sl 94 ts_Cell) t.2.2.2.1, .val (.sl 90 ts_Vol) t.2.2.2.2.1, .val (.int .i64) t.2.2.2.2.2])]⟩
def f45u2_0 (s : St) : Option (Int × List E_i64 × List E_Node × List E_Age × List E_Cell × List E_Vol × Int) := (unS f45h2_0 f45o2_0 s).map fun v => (v.1.2.2.2.1, v.2.1.1, v.2.1.2.1, v.2.1.2.2.1, v.2.1.2.2.2.1, v.2.1.2.2.2.2.1, v.2.1.2.2.2.2.2.1)
theorem f45un2_0 : ∀ (s : St) (t : Int × List E_i64 × List E_Node × List E_Age × List E_Cell × List E_Vol × Int), f45u2_0 s = some t → f45e2_0 t = s := fun s v h => by
  obtain ⟨u, hu, rfl⟩ := Option.map_eq_some_iff.1 h
  exact (show f45e2_0 (u.1.2.2.2.1, u.2.1.1, u.2.1.2.1, u.2.1.2.2.1, u.2.1.2.2.2.1, u.2.1.2.2.2.2.1, u.2.1.2.2.2.2.2.1) = mkS f45h2_0 f45o2_0 u by kernel_rfl).trans (mkS_un f45h2_0 f45o2_0 s u hu)
def f45u2 : St → Option (Int × List E_i64 × List E_Node × List E_Age × List E_Cell × List E_Vol × Int) := f45u2_0
def f45e2 : (Int × List E_i64 × List E_Node × List E_Age × List E_Cell × List E_Vol × Int) → St := f45e2_0
theorem f45un2 : ∀ (s : St) (t : Int × List E_i64 × List E_Node × List E_Age × List E_Cell × List E_Vol × Int), f45u2 s = some t → f45e2 t = s := f45un2_0
noncomputable def f45P : Lp := fun i s {_R} κ => bif Nat.beq i 2 then (f45u2 s).bind fun t => L_spec_PoolOk_2 (fun t => κ (none) (f45x2_0 t)) (fun t => κ (some 0) (f45x2_1 t)) t else none
noncomputable def f45c2 : Code := (loopsOf f45B).getD 0 .skip
theorem f45A2 : C.live 45 (firstRegion f45c2) = some ([1, 3, 24, 25, 26, 29, 30, 31, 34, 35, 36, 39, 40, 43, 44], [1, 2, 24, 25, 26, 29, 30, 31, 34, 35, 36, 39, 40, 43, 44]) := by kernel_rfl
theorem f45B2 {R : Type} (κ : Option Nat → St → Option R) (s : St) : f45P (firstRegion f45c2) s κ = (f45u2 s).bind fun t => iter (S_spec_PoolOk_2 (fun t => κ (none) (f45x2_0 t)) (fun t => κ (some 0) (f45x2_1 t))) FUEL t := by kernel_rfl
theorem f45C2 {R : Type} (κ : Option Nat → St → Option R) (again : St → Option R) (t : T_spec_PoolOk_2) : stepL C f45K f45P 45 f45c2 [1, 3, 24, 25, 26, 29, 30, 31, 34, 35, 36, 39, 40, 43, 44] [1, 2, 24, 25, 26, 29, 30, 31, 34, 35, 36, 39, 40, 43, 44] κ again (f45e2 t) = S_spec_PoolOk_2 (fun t => κ (none) (f45x2_0 t)) (fun t => κ (some 0) (f45x2_1 t)) (fun t => again (f45e2 t)) t := by kernel_rfl
theorem f45ok2 : LoopOk C f45K f45P 45 f45c2 := loop_ok f45A2 f45e2 f45u2 f45un2 (fun {_R} κ => S_spec_PoolOk_2 (fun t => κ (none) (f45x2_0 t)) (fun t => κ (some 0) (f45x2_1 t))) (fun {_R} κ s => f45B2 κ s) (fun {_R} κ again t => f45C2 κ again t)
theorem k45 : Contract C Tryz.prog f45K := contract_tab _ (fun p hp => by
    simp only [List.mem_cons, List.mem_nil_iff, or_false] at hp
    rcases hp with rfl | rfl | rfl | rfl | rfl | rfl
    · exact ok39
    · exact ok108
    · exact ok109
    · exact ok110
    · exact ok111
    · exact ok112)
theorem ev45 (x : List E_i64 × List E_Node × List E_Age × List E_Cell × List E_Vol × Int) : evalB C f45K f45P 45 Tryz.f45 f45B ⟨[.v true [(.sl 3 ts_i64), (.sl 97 ts_Node), (.sl 88 ts_Age), (.sl 94 ts_Cell), (.sl 90 ts_Vol), (.int .i64)] [false, false, false, false, false, false]], [⟨false, [.bool], [false]⟩], false⟩ [(.sl 3 ts_i64), (.sl 97 ts_Node), (.sl 88 ts_Age), (.sl 94 ts_Cell), (.sl 90 ts_Vol), (.int .i64)] [.bool] x = F_spec_PoolOk x := by kernel_rfl
theorem ok45 : ContractAt C Tryz.prog 45 F_spec_PoolOk := fn_sound (lp := f45P) tok mixed k45 (by kernel_rfl) (fn := Tryz.f45) (c := f45B) (sg := ⟨[.v true [(.sl 3 ts_i64), (.sl 97 ts_Node), (.sl 88 ts_Age), (.sl 94 ts_Cell), (.sl 90 ts_Vol), (.int .i64)] [false, false, false, false, false, false]], [⟨false, [.bool], [false]⟩], false⟩) Tryz.func45 (by decide) (by kernel_rfl) (by kernel_rfl) (by kernel_rfl) (fun c' hc' => by
    rw [show loopsOf f45B = [f45c2] by kernel_rfl] at hc'
    simp only [List.mem_cons, List.mem_nil_iff, or_false] at hc'
    rcases hc' with rfl
    · exact f45ok2) (by decide) (by decide) (fun x y h => (ev45 x).trans h)
abbrev T_spec_PathOf_3 : Type := List E_Age × Int × List E_i64
noncomputable def S_spec_PathOf_3 {R : Type} (k0 : List E_i64 → Option R) (again : T_spec_PathOf_3 → Option R) (t3 : T_spec_PathOf_3) : Option R :=
  Option.bind (bif (decide (t3.2.1 ≥ (0 : Int))) then some (decide (((List.length t3.2.2 : Nat) : Int) ≤ ((List.length t3.1 : Nat) : Int))) else some false) fun u2 => bif u2 then if (0 : Int) ≤ t3.2.1 then if t3.2.1 < ((List.length t3.1 : Nat) : Int) then if (List.length t3.2.2 + List.length ([(rd_Age t3.1 t3.2.1).1] : List E_i64)) * 8 < 140737488355328 then if (0 : Int) ≤ t3.2.1 then if t3.2.1 < ((List.length t3.1 : Nat) : Int) then Option.bind (F_spec_AgeAt (t3.1, (rd_Age t3.1 t3.2.1).2)) fun r3 => again (t3.1, r3, (t3.2.2 ++ ([(rd_Age t3.1 t3.2.1).1] : List E_i64))) else none else none else none else none else none else k0 t3.2.2
noncomputable def L_spec_PathOf_3 {R : Type} (k0 : List E_i64 → Option R) (t : T_spec_PathOf_3) : Option R := iter (S_spec_PathOf_3 k0) FUEL t
noncomputable def F_spec_PathOf (x : List E_Age × Int) : Option (List E_i64) :=
  Option.bind (F_spec_AgeAt (x.1, x.2)) fun r1 => L_spec_PathOf_3 (fun x4 => some x4) (x.1, r1, ([] : List E_i64))
noncomputable def f236B : Code := match Tryz.f236.body with
  | some c => c
  | none => .skip
noncomputable def f236K : C.Sem := tab [⟨176, F_spec_AgeAt⟩]
def f236h3_0 : List Sh := [.v (.sl 88 ts_Age), .dead, .dead, .dead, .dead, .own 10000000, .v (.int .i64), .dead, .dead, .dead, .dead, .dead, .dead, .dead, .dead, .dead, .dead, .dead, .dead, .dead, .dead, .dead, .dead, .dead, .dead, .dead, .dead, .dead, .dead, .dead, .dead, .dead, .dead, .dead, .dead, .dead]
def f236o3_0 : List (Nat × OSh) := [(10000000, .root true 3 ts_i64)]
def f236e3_0 (t : List E_Age × Int × List E_i64) : St := ⟨[.val (.sl 88 ts_Age) t.1, .dead, .dead, .dead, .dead, .own 10000000, .val (.int .i64) t.2.1, .dead, .dead, .dead, .dead, .dead, .dead, .dead, .dead, .dead, .dead, .dead, .dead, .dead, .dead, .dead, .dead, .dead, .dead, .dead, .dead, .dead, .dead, .dead, .dead, .dead, .dead, .dead, .dead, .dead], [(10000000, .root true 3 ts_i64 t.2.2)]⟩
def f236x3_0 (t : List E_i64) : St := ⟨[.dead, .dead, .dead, .dead, .dead, .own 10000000, .dead, .dead, .dead, .dead, .dead, .dead, .dead, .dead, .dead, .dead, .dead, .dead, .dead, .dead, .dead, .dead, .dead, .dead, .dead, .dead, .dead, .dead, .dead, .dead, .dead, .dead, .dead, .dead, .dead, .dead], [(10000000, .root true 3 ts_i64 t)]⟩
def f236u3_0 (s : St) : Option (List E_Age × Int × List E_i64) := (unS f236h3_0 f236o3_0 s).map fun v => (v.1.1, v.1.2.2.2.2.2.2.1, v.2.1)
theorem f236un3_0 : ∀ (s : St) (t : List E_Age × Int × List E_i64), f236u3_0 s = some t → f236e3_0 t = s := fun s v h => by
  obtain ⟨u, hu, rfl⟩ := Option.map_eq_some_iff.1 h
  exact (show f236e3_0 (u.1.1, u.1.2.2.2.2.2.2.1, u.2.1) = mkS f236h3_0 f236o3_0 u by kernel_rfl).trans (mkS_un f236h3_0 f236o3_0 s u hu)
def f236u3 : St → Option (List E_Age × Int × List E_i64) := f236u3_0
def f236e3 : (List E_Age × Int × List E_i64) → St := f236e3_0
theorem f236un3 : ∀ (s : St) (t : List E_Age × Int × List E_i64), f236u3 s = some t → f236e3 t = s := f236un3_0
noncomputable def f236P : Lp := fun i s {_R} κ => bif Nat.beq i 3 then (f236u3 s).bind fun t => L_spec_PathOf_3 (fun t => κ (some 0) (f236x3_0 t)) t else none
noncomputable def f236c3 : Code := (loopsOf f236B).getD 0 .skip
theorem f236A3 : C.live 236 (firstRegion f236c3) = some ([0, 5, 6, 14, 15, 16, 17, 18], [5]) := by kernel_rfl
theorem f236B3 {R : Type} (κ : Option Nat → St → Option R) (s : St) : f236P (firstRegion f236c3) s κ = (f236u3 s).bind fun t => iter (S_spec_PathOf_3 (fun t => κ (some 0) (f236x3_0 t))) FUEL t := by kernel_rfl
theorem f236C3 {R : Type} (κ : Option Nat → St → Option R) (again : St → Option R) (t : T_spec_PathOf_3) : stepL C f236K f236P 236 f236c3 [0, 5, 6, 14, 15, 16, 17, 18] [5] κ again (f236e3 t) = S_spec_PathOf_3 (fun t => κ (some 0) (f236x3_0 t)) (fun t => again (f236e3 t)) t := by kernel_rfl
theorem f236ok3 : LoopOk C f236K f236P 236 f236c3 := loop_ok f236A3 f236e3 f236u3 f236un3 (fun {_R} κ => S_spec_PathOf_3 (fun t => κ (some 0) (f236x3_0 t))) (fun {_R} κ s => f236B3 κ s) (fun {_R} κ again t => f236C3 κ again t)
theorem k236 : Contract C Tryz.prog f236K := contract_tab _ (fun p hp => by
    simp only [List.mem_cons, List.mem_nil_iff, or_false] at hp
    rcases hp with rfl
    · exact ok176)
theorem ev236 (x : List E_Age × Int) : evalB C f236K f236P 236 Tryz.f236 f236B ⟨[.v false [(.sl 88 ts_Age)] [false], .v false [(.int .i64)] [false]], [⟨false, [(.sl 3 ts_i64)], [true]⟩], false⟩ [(.sl 88 ts_Age), (.int .i64)] [(.sl 3 ts_i64)] x = F_spec_PathOf x := by kernel_rfl
theorem ok236 : ContractAt C Tryz.prog 236 F_spec_PathOf := fn_sound (lp := f236P) tok mixed k236 (by kernel_rfl) (fn := Tryz.f236) (c := f236B) (sg := ⟨[.v false [(.sl 88 ts_Age)] [false], .v false [(.int .i64)] [false]], [⟨false, [(.sl 3 ts_i64)], [true]⟩], false⟩) Tryz.func236 (by decide) (by kernel_rfl) (by kernel_rfl) (by kernel_rfl) (fun c' hc' => by
    rw [show loopsOf f236B = [f236c3] by kernel_rfl] at hc'
    simp only [List.mem_cons, List.mem_nil_iff, or_false] at hc'
    rcases hc' with rfl
    · exact f236ok3) (by decide) (by decide) (fun x y h => (ev236 x).trans h)
abbrev T_spec_KeysOf_4 : Type := Int × Int × List E_Key × List E_Key
noncomputable def S_spec_KeysOf_4 {R : Type} (k0 : List E_Key → Option R) (again : T_spec_KeysOf_4 → Option R) (t4 : T_spec_KeysOf_4) : Option R :=
  bif (decide (t4.2.1 < ((List.length t4.2.2.2 : Nat) : Int))) then if (0 : Int) ≤ t4.2.1 then if t4.2.1 < ((List.length t4.2.2.2 : Nat) : Int) then bif ((rd_Key t4.2.2.2 t4.2.1).1 == t4.1) then if (0 : Int) ≤ t4.2.1 then if t4.2.1 < ((List.length t4.2.2.2 : Nat) : Int) then if (List.length t4.2.2.1 + List.length ([((rd_Key t4.2.2.2 t4.2.1).1, (rd_Key t4.2.2.2 t4.2.1).2.1, (rd_Key t4.2.2.2 t4.2.1).2.2.1, (rd_Key t4.2.2.2 t4.2.1).2.2.2.1, (rd_Key t4.2.2.2 t4.2.1).2.2.2.2)] : List E_Key)) * 40 < 140737488355328 then again (t4.1, (Go.IntKind.wrap .i64 (t4.2.1 + (1 : Int))), (t4.2.2.1 ++ ([((rd_Key t4.2.2.2 t4.2.1).1, (rd_Key t4.2.2.2 t4.2.1).2.1, (rd_Key t4.2.2.2 t4.2.1).2.2.1, (rd_Key t4.2.2.2 t4.2.1).2.2.2.1, (rd_Key t4.2.2.2 t4.2.1).2.2.2.2)] : List E_Key)), t4.2.2.2) else none else none else none else again (t4.1, (Go.IntKind.wrap .i64 (t4.2.1 + (1 : Int))), t4.2.2.1, t4.2.2.2) else none else none else k0 t4.2.2.1
noncomputable def L_spec_KeysOf_4 {R : Type} (k0 : List E_Key → Option R) (t : T_spec_KeysOf_4) : Option R := iter (S_spec_KeysOf_4 k0) FUEL t
noncomputable def F_spec_KeysOf (x : List E_i64 × List E_Node × Int) : Option (List E_Key) :=
  Option.bind (F_spec_TreeKeys (x.1, x.2.1)) fun r1 => L_spec_KeysOf_4 (fun x2 => some x2) (x.2.2, (0 : Int), ([] : List E_Key), r1)
noncomputable def f264B : Code := match Tryz.f264.body with
  | some c => c
  | none => .skip
noncomputable def f264K : C.Sem := tab [⟨156, F_spec_TreeKeys⟩]
def f264h4_0 : List Sh := [.dead, .v (.int .i64), .dead, .dead, .dead, .own 10000000, .own 10000001, .v (.int .i64), .dead, .dead, .dead, .dead, .dead, .dead, .dead, .dead, .dead, .dead, .dead, .dead, .dead, .dead, .dead, .dead, .dead, .dead, .dead, .dead, .dead, .dead, .dead, .dead]
def f264o4_0 : List (Nat × OSh) := [(10000000, .root true 105 ts_Key), (10000001, .root true 105 ts_Key)]
def f264e4_0 (t : Int × Int × List E_Key × List E_Key) : St := ⟨[.dead, .val (.int .i64) t.1, .dead, .dead, .dead, .own 10000000, .own 10000001, .val (.int .i64) t.2.1, .dead, .dead, .dead, .dead, .dead, .dead, .dead, .dead, .dead, .dead, .dead, .dead, .dead, .dead, .dead, .dead, .dead, .dead, .dead, .dead, .dead, .dead, .dead, .dead], [(10000000, .root true 105 ts_Key t.2.2.1), (10000001, .root true 105 ts_Key t.2.2.2)]⟩
def f264x4_0 (t : List E_Key) : St := ⟨[.dead, .dead, .dead, .dead, .dead, .own 10000000, .dead, .dead, .dead, .dead, .dead, .dead, .dead, .dead, .dead, .dead, .dead, .dead, .dead, .dead, .dead, .dead, .dead, .dead, .dead, .dead, .dead, .dead, .dead, .dead, .dead, .dead], [(10000000, .root true 105 ts_Key t)]⟩
def f264u4_0 (s : St) : Option (Int × Int × List E_Key × List E_Key) := (unS f264h4_0 f264o4_0 s).map fun v => (v.1.2.1, v.1.2.2.2.2.2.2.2.1, v.2.1, v.2.2.1)
theorem f264un4_0 : ∀ (s : St) (t : Int × Int × List E_Key × List E_Key), f264u4_0 s = some t → f264e4_0 t = s := fun s v h => by
  obtain ⟨u, hu, rfl⟩ := Option.map_eq_some_iff.1 h
  exact (show f264e4_0 (u.1.2.1, u.1.2.2.2.2.2.2.2.1, u.2.1, u.2.2.1) = mkS f264h4_0 f264o4_0 u by kernel_rfl).trans (mkS_un f264h4_0 f264o4_0 s u hu)
def f264u4 : St → Option (Int × Int × List E_Key × List E_Key) := f264u4_0
def f264e4 : (Int × Int × List E_Key × List E_Key) → St := f264e4_0
theorem f264un4 : ∀ (s : St) (t : Int × Int × List E_Key × List E_Key), f264u4 s = some t → f264e4 t = s := f264un4_0
noncomputable def f264P : Lp := fun i s {_R} κ => bif Nat.beq i 4 then (f264u4 s).bind fun t => L_spec_KeysOf_4 (fun t => κ (some 0) (f264x4_0 t)) t else none
noncomputable def f264c4 : Code := (loopsOf f264B).getD 0 .skip
theorem f264A4 : C.live 264 (firstRegion f264c4) = some ([1, 5, 6, 7], [5]) := by kernel_rfl
theorem f264B4 {R : Type} (κ : Option Nat → St → Option R) (s : St) : f264P (firstRegion f264c4) s κ = (f264u4 s).bind fun t => iter (S_spec_KeysOf_4 (fun t => κ (some 0) (f264x4_0 t))) FUEL t := by kernel_rfl
theorem f264C4 {R : Type} (κ : Option Nat → St → Option R) (again : St → Option R) (t : T_spec_KeysOf_4) : stepL C f264K f264P 264 f264c4 [1, 5, 6, 7] [5] κ again (f264e4 t) = S_spec_KeysOf_4 (fun t => κ (some 0) (f264x4_0 t)) (fun t => again (f264e4 t)) t := by kernel_rfl
theorem f264ok4 : LoopOk C f264K f264P 264 f264c4 := loop_ok f264A4 f264e4 f264u4 f264un4 (fun {_R} κ => S_spec_KeysOf_4 (fun t => κ (some 0) (f264x4_0 t))) (fun {_R} κ s => f264B4 κ s) (fun {_R} κ again t => f264C4 κ again t)
theorem k264 : Contract C Tryz.prog f264K := contract_tab _ (fun p hp => by
    simp only [List.mem_cons, List.mem_nil_iff, or_false] at hp
    rcases hp with rfl
    · exact ok156)
theorem ev264 (x : List E_i64 × List E_Node × Int) : evalB C f264K f264P 264 Tryz.f264 f264B ⟨[.v true [(.sl 3 ts_i64), (.sl 97 ts_Node)] [false, false], .v false [(.int .i64)] [false]], [⟨false, [(.sl 105 ts_Key)], [true]⟩], false⟩ [(.sl 3 ts_i64), (.sl 97 ts_Node), (.int .i64)] [(.sl 105 ts_Key)] x = F_spec_KeysOf x := by kernel_rfl
theorem ok264 : ContractAt C Tryz.prog 264 F_spec_KeysOf := fn_sound (lp := f264P) tok mixed k264 (by kernel_rfl) (fn := Tryz.f264) (c := f264B) (sg := ⟨[.v true [(.sl 3 ts_i64), (.sl 97 ts_Node)] [false, false], .v false [(.int .i64)] [false]], [⟨false, [(.sl 105 ts_Key)], [true]⟩], false⟩) Tryz.func264 (by decide) (by kernel_rfl) (by kernel_rfl) (by kernel_rfl) (fun c' hc' => by
    rw [show loopsOf f264B = [f264c4] by kernel_rfl] at hc'
    simp only [List.mem_cons, List.mem_nil_iff, or_false] at hc'
    rcases hc' with rfl
    · exact f264ok4) (by decide) (by decide) (fun x y h => (ev264 x).trans h)
abbrev T_spec_l7Has_2 : Type := List E_i64 × Int × Int
noncomputable def S_spec_l7Has_2 {R : Type} (k0 : Bool → Option R) (k1 : Unit → Option R) (again : T_spec_l7Has_2 → Option R) (t2 : T_spec_l7Has_2) : Option R :=
  bif (decide (t2.2.2 < ((List.length t2.1 : Nat) : Int))) then if (0 : Int) ≤ t2.2.2 then if t2.2.2 < ((List.length t2.1 : Nat) : Int) then bif ((rd_i64 t2.1 t2.2.2) == t2.2.1) then k0 true else again (t2.1, t2.2.1, (Go.IntKind.wrap .i64 (t2.2.2 + (1 : Int)))) else none else none else k1 ()
noncomputable def L_spec_l7Has_2 {R : Type} (k0 : Bool → Option R) (k1 : Unit → Option R) (t : T_spec_l7Has_2) : Option R := iter (S_spec_l7Has_2 k0 k1) FUEL t
noncomputable def F_spec_l7Has (x : List E_i64 × Int) : Option (Bool) :=
  L_spec_l7Has_2 (fun x1 => some x1) (fun x2 => some false) (x.1, x.2, (0 : Int))
noncomputable def f265B : Code := match Tryz.f265.body with
  | some c => c
  | none => .skip
noncomputable def f265K : C.Sem := tab []
def f265h2_0 : List Sh := [.v (.sl 3 ts_i64), .v (.int .i64), .dead, .dead, .dead, .v (.int .i64), .dead, .dead, .dead, .dead, .dead, .dead, .dead, .dead, .dead, .dead, .dead, .dead]
def f265o2_0 : List (Nat × OSh) := []
def f265e2_0 (t : List E_i64 × Int × Int) : St := ⟨[.val (.sl 3 ts_i64) t.1, .val (.int .i64) t.2.1, .dead, .dead, .dead, .val (.int .i64) t.2.2, .dead, .dead, .dead, .dead, .dead, .dead, .dead, .dead, .dead, .dead, .dead, .dead], []⟩
def f265x2_0 (t : Bool) : St := ⟨[.dead, .dead, .dead, .dead, .val .bool t, .dead, .dead, .dead, .dead, .dead, .dead, .dead, .dead, .dead, .dead, .dead, .dead, .dead], []⟩
def f265x2_1 (t : Unit) : St := ⟨[.dead, .dead, .dead, .dead, .dead, .dead, .dead, .dead, .dead, .dead, .dead, .dead, .dead, .dead, .dead, .dead, .dead, .dead], []⟩
def f265u2_0 (s : St) : Option (List E_i64 × Int × Int) := (unS f265h2_0 f265o2_0 s).map fun v => (v.1.1, v.1.2.1, v.1.2.2.2.2.2.1)
theorem f265un2_0 : ∀ (s : St) (t : List E_i64 × Int × Int), f265u2_0 s = some t → f265e2_0 t = s := fun s v h => by
  obtain ⟨u, hu, rfl⟩ := Option.map_eq_some_iff.1 h
  exact (show f265e2_0 (u.1.1, u.1.2.1, u.1.2.2.2.2.2.1) = mkS f265h2_0 f265o2_0 u by kernel_rfl).trans (mkS_un f265h2_0 f265o2_0 s u hu)
def f265u2 : St → Option (List E_i64 × Int × Int) := f265u2_0
def f265e2 : (List E_i64 × Int × Int) → St := f265e2_0
theorem f265un2 : ∀ (s : St) (t : List E_i64 × Int × Int), f265u2 s = some t → f265e2 t = s := f265un2_0
noncomputable def f265P : Lp := fun i s {_R} κ => bif Nat.beq i 2 then (f265u2 s).bind fun t => L_spec_l7Has_2 (fun t => κ (none) (f265x2_0 t)) (fun t => κ (some 0) (f265x2_1 t)) t else none
noncomputable def f265c2 : Code := (loopsOf f265B).getD 0 .skip
theorem f265A2 : C.live 265 (firstRegion f265c2) = some ([0, 1, 5], [4]) := by kernel_rfl
theorem f265B2 {R : Type} (κ : Option Nat → St → Option R) (s : St) : f265P (firstRegion f265c2) s κ = (f265u2 s).bind fun t => iter (S_spec_l7Has_2 (fun t => κ (none) (f265x2_0 t)) (fun t => κ (some 0) (f265x2_1 t))) FUEL t := by kernel_rfl
theorem f265C2 {R : Type} (κ : Option Nat → St → Option R) (again : St → Option R) (t : T_spec_l7Has_2) : stepL C f265K f265P 265 f265c2 [0, 1, 5] [4] κ again (f265e2 t) = S_spec_l7Has_2 (fun t => κ (none) (f265x2_0 t)) (fun t => κ (some 0) (f265x2_1 t)) (fun t => again (f265e2 t)) t := by kernel_rfl
theorem f265ok2 : LoopOk C f265K f265P 265 f265c2 := loop_ok f265A2 f265e2 f265u2 f265un2 (fun {_R} κ => S_spec_l7Has_2 (fun t => κ (none) (f265x2_0 t)) (fun t => κ (some 0) (f265x2_1 t))) (fun {_R} κ s => f265B2 κ s) (fun {_R} κ again t => f265C2 κ again t)
theorem k265 : Contract C Tryz.prog f265K := contract_tab _ (fun p hp => by cases hp)
theorem ev265 (x : List E_i64 × Int) : evalB C f265K f265P 265 Tryz.f265 f265B ⟨[.v false [(.sl 3 ts_i64)] [false], .v false [(.int .i64)] [false]], [⟨false, [.bool], [false]⟩], false⟩ [(.sl 3 ts_i64), (.int .i64)] [.bool] x = F_spec_l7Has x := by kernel_rfl
theorem ok265 : ContractAt C Tryz.prog 265 F_spec_l7Has := fn_sound (lp := f265P) tok mixed k265 (by kernel_rfl) (fn := Tryz.f265) (c := f265B) (sg := ⟨[.v false [(.sl 3 ts_i64)] [false], .v false [(.int .i64)] [false]], [⟨false, [.bool], [false]⟩], false⟩) Tryz.func265 (by decide) (by kernel_rfl) (by kernel_rfl) (by kernel_rfl) (fun c' hc' => by
    rw [show loopsOf f265B = [f265c2] by kernel_rfl] at hc'
    simp only [List.mem_cons, List.mem_nil_iff, or_false] at hc'
    rcases hc' with rfl
    · exact f265ok2) (by decide) (by decide) (fun x y h => (ev265 x).trans h)
abbrev T_spec_l8Near_5 : Type := List E_i64 × Bool × Int × Int × Int × Int × Int × Int × Int × Int × Int × Int × Int × List E_Key
noncomputable def S_spec_l8Near_5 {R : Type} (k0 : (Bool × Int × Int × Int × Int × Int × Int × Int × Int × Int × Int) → Option R) (again : T_spec_l8Near_5 → Option R) (t5 : T_spec_l8Near_5) : Option R :=
  bif (decide (t5.2.2.1 < ((List.length t5.2.2.2.2.2.2.2.2.2.2.2.2.2 : Nat) : Int))) then if (0 : Int) ≤ t5.2.2.1 then if t5.2.2.1 < ((List.length t5.2.2.2.2.2.2.2.2.2.2.2.2.2 : Nat) : Int) then Option.bind (F_spec_l7Has (t5.1, (rd_Key t5.2.2.2.2.2.2.2.2.2.2.2.2.2 t5.2.2.1).2.1)) fun r2 => Option.bind (bif r2 then Option.bind (bif (!t5.2.1) then some true else if (0 : Int) ≤ t5.2.2.1 then if t5.2.2.1 < ((List.length t5.2.2.2.2.2.2.2.2.2.2.2.2.2 : Nat) : Int) then some (decide ((rd_Key t5.2.2.2.2.2.2.2.2.2.2.2.2.2 t5.2.2.1).2.1 > t5.2.2.2.2.2.2.2.2.2.1)) else none else none) fun u4 => some u4 else some false) fun u3 => bif u3 then if (0 : Int) ≤ t5.2.2.1 then if t5.2.2.1 < ((List.length t5.2.2.2.2.2.2.2.2.2.2.2.2.2 : Nat) : Int) then again (t5.1, true, (Go.IntKind.wrap .i64 (t5.2.2.1 + (1 : Int))), t5.2.2.2.1, t5.2.2.2.2.1, t5.2.2.2.2.2.1, t5.2.2.2.2.2.2.1, t5.2.2.2.2.2.2.2.1, (rd_Key t5.2.2.2.2.2.2.2.2.2.2.2.2.2 t5.2.2.1).1, (rd_Key t5.2.2.2.2.2.2.2.2.2.2.2.2.2 t5.2.2.1).2.1, (rd_Key t5.2.2.2.2.2.2.2.2.2.2.2.2.2 t5.2.2.1).2.2.1, (rd_Key t5.2.2.2.2.2.2.2.2.2.2.2.2.2 t5.2.2.1).2.2.2.1, (rd_Key t5.2.2.2.2.2.2.2.2.2.2.2.2.2 t5.2.2.1).2.2.2.2, t5.2.2.2.2.2.2.2.2.2.2.2.2.2) else none else none else again (t5.1, t5.2.1, (Go.IntKind.wrap .i64 (t5.2.2.1 + (1 : Int))), t5.2.2.2.1, t5.2.2.2.2.1, t5.2.2.2.2.2.1, t5.2.2.2.2.2.2.1, t5.2.2.2.2.2.2.2.1, t5.2.2.2.2.2.2.2.2.1, t5.2.2.2.2.2.2.2.2.2.1, t5.2.2.2.2.2.2.2.2.2.2.1, t5.2.2.2.2.2.2.2.2.2.2.2.1, t5.2.2.2.2.2.2.2.2.2.2.2.2.1, t5.2.2.2.2.2.2.2.2.2.2.2.2.2) else none else none else k0 (t5.2.1, t5.2.2.2.1, t5.2.2.2.2.1, t5.2.2.2.2.2.1, t5.2.2.2.2.2.2.1, t5.2.2.2.2.2.2.2.1, t5.2.2.2.2.2.2.2.2.1, t5.2.2.2.2.2.2.2.2.2.1, t5.2.2.2.2.2.2.2.2.2.2.1, t5.2.2.2.2.2.2.2.2.2.2.2.1, t5.2.2.2.2.2.2.2.2.2.2.2.2.1)
noncomputable def L_spec_l8Near_5 {R : Type} (k0 : (Bool × Int × Int × Int × Int × Int × Int × Int × Int × Int × Int) → Option R) (t : T_spec_l8Near_5) : Option R := iter (S_spec_l8Near_5 k0) FUEL t
noncomputable def F_spec_l8Near (x : List E_i64 × List E_Node × Int × List E_i64) : Option (Int × Int × Int × Int × Int × Bool) :=
  Option.bind (F_spec_KeysOf (x.1, x.2.1, x.2.2.1)) fun r1 => L_spec_l8Near_5 (fun x5 => some (x5.2.2.2.2.2.2.1, x5.2.2.2.2.2.2.2.1, x5.2.2.2.2.2.2.2.2.1, x5.2.2.2.2.2.2.2.2.2.1, x5.2.2.2.2.2.2.2.2.2.2, x5.1)) (x.2.2.2, false, (0 : Int), (0 : Int), (0 : Int), (0 : Int), (0 : Int), (0 : Int), (0 : Int), (0 : Int), (0 : Int), (0 : Int), (0 : Int), r1)
noncomputable def f237B : Code := match Tryz.f237.body with
  | some c => c
  | none => .skip
noncomputable def f237K : C.Sem := tab [⟨264, F_spec_KeysOf⟩, ⟨265, F_spec_l7Has⟩]
def f237h5_0 : List Sh := [.dead, .dead, .v (.sl 3 ts_i64), .dead, .dead, .dead, .box 6 0, .dead, .box 8 0, .v .bool, .own 10000000, .v (.int .i64), .dead, .dead, .dead, .dead, .dead, .dead, .dead, .dead, .dead, .dead, .dead, .dead, .dead, .dead, .dead, .dead, .dead, .dead, .dead, .dead, .dead, .dead, .dead, .dead, .dead, .dead, .dead, .dead, .dead, .dead, .dead, .dead, .dead, .dead, .dead, .dead, .dead]
def f237o5_0 : List (Nat × OSh) := [(6, .box [.v (.int .i64), .v (.int .i64), .v (.int .i64), .v (.int .i64), .v (.int .i64)]), (8, .box [.v (.int .i64), .v (.int .i64), .v (.int .i64), .v (.int .i64), .v (.int .i64)]), (10000000, .root true 105 ts_Key)]
def f237e5_0 (t : List E_i64 × Bool × Int × Int × Int × Int × Int × Int × Int × Int × Int × Int × Int × List E_Key) : St := ⟨[.dead, .dead, .val (.sl 3 ts_i64) t.1, .dead, .dead, .dead, .box 6 0, .dead, .box 8 0, .val .bool t.2.1, .own 10000000, .val (.int .i64) t.2.2.1, .dead, .dead, .dead, .dead, .dead, .dead, .dead, .dead, .dead, .dead, .dead, .dead, .dead, .dead, .dead, .dead, .dead, .dead, .dead, .dead, .dead, .dead, .dead, .dead, .dead, .dead, .dead, .dead, .dead, .dead, .dead, .dead, .dead, .dead, .dead, .dead, .dead], [(6, .box [.val (.int .i64) t.2.2.2.1, .val (.int .i64) t.2.2.2.2.1, .val (.int .i64) t.2.2.2.2.2.1, .val (.int .i64) t.2.2.2.2.2.2.1, .val (.int .i64) t.2.2.2.2.2.2.2.1]), (8, .box [.val (.int .i64) t.2.2.2.2.2.2.2.2.1, .val (.int .i64) t.2.2.2.2.2.2.2.2.2.1, .val (.int .i64) t.2.2.2.2.2.2.2.2.2.2.1, .val (.int .i64) t.2.2.2.2.2.2.2.2.2.2.2.1, .val (.int .i64) t.2.2.2.2.2.2.2.2.2.2.2.2.1]), (10000000, .root true 105 ts_Key t.2.2.2.2.2.2.2.2.2.2.2.2.2)]⟩
def f237x5_0 (t : Bool × Int × Int × Int × Int × Int × Int × Int × Int × Int × Int) : St := ⟨[.dead, .dead, .dead, .dead, .dead, .dead, .box 6 0, .dead, .box 8 0, .val .bool t.1, .dead, .dead, .dead, .dead, .dead, .dead, .dead, .dead, .dead, .dead, .dead, .dead, .dead, .dead, .dead, .dead, .dead, .dead, .dead, .dead, .dead, .dead, .dead, .dead, .dead, .dead, .dead, .dead, .dead, .dead, .dead, .dead, .dead, .dead, .dead, .dead, .dead, .dead, .dead], [(6, .box [.val (.int .i64) t.2.1, .val (.int .i64) t.2.2.1, .val (.int .i64) t.2.2.2.1, .val (.int .i64) t.2.2.2.2.1, .val (.int .i64) t.2.2.2.2.2.1]), (8, .box [.val (.int .i64) t.2.2.2.2.2.2.1, .val (.int .i64) t.2.2.2.2.2.2.2.1, .val (.int .i64) t.2.2.2.2.2.2.2.2.1, .val (.int .i64) t.2.2.2.2.2.2.2.2.2.1, .val (.int .i64) t.2.2.2.2.2.2.2.2.2.2])]⟩
def f237u5_0 (s : St) : Option (List E_i64 × Bool × Int × Int × Int × Int × Int × Int × Int × Int × Int × Int × Int × List E_Key) := (unS f237h5_0 f237o5_0 s).map fun v => (v.1.2.2.1, v.1.2.2.2.2.2.2.2.2.2.1, v.1.2.2.2.2.2.2.2.2.2.2.2.1, v.2.1.1, v.2.1.2.1, v.2.1.2.2.1, v.2.1.2.2.2.1, v.2.1.2.2.2.2.1, v.2.2.1.1, v.2.2.1.2.1, v.2.2.1.2.2.1, v.2.2.1.2.2.2.1, v.2.2.1.2.2.2.2.1, v.2.2.2.1)
theorem f237un5_0 : ∀ (s : St) (t : List E_i64 × Bool × Int × Int × Int × Int × Int × Int × Int × Int × Int × Int × Int × List E_Key), f237u5_0 s = some t → f237e5_0 t = s := fun s v h => by
  obtain ⟨u, hu, rfl⟩ := Option.map_eq_some_iff.1 h
  exact (show f237e5_0 (u.1.2.2.1, u.1.2.2.2.2.2.2.2.2.2.1, u.1.2.2.2.2.2.2.2.2.2.2.2.1, u.2.1.1, u.2.1.2.1, u.2.1.2.2.1, u.2.1.2.2.2.1, u.2.1.2.2.2.2.1, u.2.2.1.1, u.2.2.1.2.1, u.2.2.1.2.2.1, u.2.2.1.2.2.2.1, u.2.2.1.2.2.2.2.1, u.2.2.2.1) = mkS f237h5_0 f237o5_0 u by kernel_rfl).trans (mkS_un f237h5_0 f237o5_0 s u hu)
def f237u5 : St → Option (List E_i64 × Bool × Int × Int × Int × Int × Int × Int × Int × Int × Int × Int × Int × List E_Key) := f237u5_0
def f237e5 : (List E_i64 × Bool × Int × Int × Int × Int × Int × Int × Int × Int × Int × Int × Int × List E_Key) → St := f237e5_0
theorem f237un5 : ∀ (s : St) (t : List E_i64 × Bool × Int × Int × Int × Int × Int × Int × Int × Int × Int × Int × Int × List E_Key), f237u5 s = some t → f237e5 t = s := f237un5_0
noncomputable def f237P : Lp := fun i s {_R} κ => bif Nat.beq i 5 then (f237u5 s).bind fun t => L_spec_l8Near_5 (fun t => κ (some 0) (f237x5_0 t)) t else none
noncomputable def f237c5 : Code := (loopsOf f237B).getD 0 .skip
theorem f237A5 : C.live 237 (firstRegion f237c5) = some ([2, 6, 8, 9, 10, 11, 30, 31, 32, 33, 34, 35, 36, 37, 38, 39, 40, 41], [6, 8, 9]) := by kernel_rfl
theorem f237B5 {R : Type} (κ : Option Nat → St → Option R) (s : St) : f237P (firstRegion f237c5) s κ = (f237u5 s).bind fun t => iter (S_spec_l8Near_5 (fun t => κ (some 0) (f237x5_0 t))) FUEL t := by kernel_rfl
theorem f237C5 {R : Type} (κ : Option Nat → St → Option R) (again : St → Option R) (t : T_spec_l8Near_5) : stepL C f237K f237P 237 f237c5 [2, 6, 8, 9, 10, 11, 30, 31, 32, 33, 34, 35, 36, 37, 38, 39, 40, 41] [6, 8, 9] κ again (f237e5 t) = S_spec_l8Near_5 (fun t => κ (some 0) (f237x5_0 t)) (fun t => again (f237e5 t)) t := by kernel_rfl
theorem f237ok5 : LoopOk C f237K f237P 237 f237c5 := loop_ok f237A5 f237e5 f237u5 f237un5 (fun {_R} κ => S_spec_l8Near_5 (fun t => κ (some 0) (f237x5_0 t))) (fun {_R} κ s => f237B5 κ s) (fun {_R} κ again t => f237C5 κ again t)
theorem k237 : Contract C Tryz.prog f237K := contract_tab _ (fun p hp => by
    simp only [List.mem_cons, List.mem_nil_iff, or_false] at hp
    rcases hp with rfl | rfl
    · exact ok264
    · exact ok265)
theorem ev237 (x : List E_i64 × List E_Node × Int × List E_i64) : evalB C f237K f237P 237 Tryz.f237 f237B ⟨[.v true [(.sl 3 ts_i64), (.sl 97 ts_Node)] [false, false], .v false [(.int .i64)] [false], .v false [(.sl 3 ts_i64)] [false]], [⟨true, [(.int .i64), (.int .i64), (.int .i64), (.int .i64), (.int .i64)], [false, false, false, false, false]⟩, ⟨false, [.bool], [false]⟩], false⟩ [(.sl 3 ts_i64), (.sl 97 ts_Node), (.int .i64), (.sl 3 ts_i64)] [(.int .i64), (.int .i64), (.int .i64), (.int .i64), (.int .i64), .bool] x = F_spec_l8Near x := by kernel_rfl
theorem ok237 : ContractAt C Tryz.prog 237 F_spec_l8Near := fn_sound (lp := f237P) tok mixed k237 (by kernel_rfl) (fn := Tryz.f237) (c := f237B) (sg := ⟨[.v true [(.sl 3 ts_i64), (.sl 97 ts_Node)] [false, false], .v false [(.int .i64)] [false], .v false [(.sl 3 ts_i64)] [false]], [⟨true, [(.int .i64), (.int .i64), (.int .i64), (.int .i64), (.int .i64)], [false, false, false, false, false]⟩, ⟨false, [.bool], [false]⟩], false⟩) Tryz.func237 (by decide) (by kernel_rfl) (by kernel_rfl) (by kernel_rfl) (fun c' hc' => by
    rw [show loopsOf f237B = [f237c5] by kernel_rfl] at hc'
    simp only [List.mem_cons, List.mem_nil_iff, or_false] at hc'
    rcases hc' with rfl
    · exact f237ok5) (by decide) (by decide) (fun x y h => (ev237 x).trans h)
noncomputable def F_spec_Seen (x : List E_i64 × List E_Node × List E_Age × Int × Int) : Option (Int × Int × Int × Int × Int × Bool) :=
  Option.bind (F_spec_PathOf (x.2.2.1, x.2.2.2.2)) fun r1 => Option.bind (F_spec_l8Near (x.1, x.2.1, x.2.2.2.1, r1)) fun r2 => some (r2.1, r2.2.1, r2.2.2.1, r2.2.2.2.1, r2.2.2.2.2.1, r2.2.2.2.2.2)
noncomputable def f239B : Code := match Tryz.f239.body with
  | some c => c
  | none => .skip
noncomputable def f239K : C.Sem := tab [⟨236, F_spec_PathOf⟩, ⟨237, F_spec_l8Near⟩]
noncomputable def f239P : Lp := fun i s {_R} κ => none
theorem k239 : Contract C Tryz.prog f239K := contract_tab _ (fun p hp => by
    simp only [List.mem_cons, List.mem_nil_iff, or_false] at hp
    rcases hp with rfl | rfl
    · exact ok236
    · exact ok237)
theorem ev239 (x : List E_i64 × List E_Node × List E_Age × Int × Int) : evalB C f239K f239P 239 Tryz.f239 f239B ⟨[.v true [(.sl 3 ts_i64), (.sl 97 ts_Node)] [false, false], .v false [(.sl 88 ts_Age)] [false], .v false [(.int .i64)] [false], .v false [(.int .i64)] [false]], [⟨true, [(.int .i64), (.int .i64), (.int .i64), (.int .i64), (.int .i64)], [false, false, false, false, false]⟩, ⟨false, [.bool], [false]⟩], false⟩ [(.sl 3 ts_i64), (.sl 97 ts_Node), (.sl 88 ts_Age), (.int .i64), (.int .i64)] [(.int .i64), (.int .i64), (.int .i64), (.int .i64), (.int .i64), .bool] x = F_spec_Seen x := by kernel_rfl
theorem ok239 : ContractAt C Tryz.prog 239 F_spec_Seen := fn_sound (lp := f239P) tok mixed k239 (by kernel_rfl) (fn := Tryz.f239) (c := f239B) (sg := ⟨[.v true [(.sl 3 ts_i64), (.sl 97 ts_Node)] [false, false], .v false [(.sl 88 ts_Age)] [false], .v false [(.int .i64)] [false], .v false [(.int .i64)] [false]], [⟨true, [(.int .i64), (.int .i64), (.int .i64), (.int .i64), (.int .i64)], [false, false, false, false, false]⟩, ⟨false, [.bool], [false]⟩], false⟩) Tryz.func239 (by decide) (by kernel_rfl) (by kernel_rfl) (by kernel_rfl) (fun c' hc' => by
    rw [show loopsOf f239B = [] by kernel_rfl] at hc'
    cases hc') (by decide) (by decide) (fun x y h => (ev239 x).trans h)
noncomputable def F_spec_Sees (x : List E_i64 × List E_Node × List E_Age × Int × Int × Int × Int × Int × Int) : Option (Bool) :=
  Option.bind (F_spec_Seen (x.1, x.2.1, x.2.2.1, x.2.2.2.1, x.2.2.2.2.2.2.2.2)) fun r1 => Option.bind (bif r1.2.2.2.2.2 then some (r1.2.1 == x.2.2.2.2.1) else some false) fun u2 => some u2
noncomputable def f203B : Code := match Tryz.f203.body with
  | some c => c
  | none => .skip
noncomputable def f203K : C.Sem := tab [⟨239, F_spec_Seen⟩]
noncomputable def f203P : Lp := fun i s {_R} κ => none
theorem k203 : Contract C Tryz.prog f203K := contract_tab _ (fun p hp => by
    simp only [List.mem_cons, List.mem_nil_iff, or_false] at hp
    rcases hp with rfl
    · exact ok239)
theorem ev203 (x : List E_i64 × List E_Node × List E_Age × Int × Int × Int × Int × Int × Int) : evalB C f203K f203P 203 Tryz.f203 f203B ⟨[.v true [(.sl 3 ts_i64), (.sl 97 ts_Node)] [false, false], .v false [(.sl 88 ts_Age)] [false], .v true [(.int .i64), (.int .i64), (.int .i64), (.int .i64), (.int .i64)] [false, false, false, false, false], .v false [(.int .i64)] [false]], [⟨false, [.bool], [false]⟩], false⟩ [(.sl 3 ts_i64), (.sl 97 ts_Node), (.sl 88 ts_Age), (.int .i64), (.int .i64), (.int .i64), (.int .i64), (.int .i64), (.int .i64)] [.bool] x = F_spec_Sees x := by kernel_rfl
theorem ok203 : ContractAt C Tryz.prog 203 F_spec_Sees := fn_sound (lp := f203P) tok mixed k203 (by kernel_rfl) (fn := Tryz.f203) (c := f203B) (sg := ⟨[.v true [(.sl 3 ts_i64), (.sl 97 ts_Node)] [false, false], .v false [(.sl 88 ts_Age)] [false], .v true [(.int .i64), (.int .i64), (.int .i64), (.int .i64), (.int .i64)] [false, false, false, false, false], .v false [(.int .i64)] [false]], [⟨false, [.bool], [false]⟩], false⟩) Tryz.func203 (by decide) (by kernel_rfl) (by kernel_rfl) (by kernel_rfl) (fun c' hc' => by
    rw [show loopsOf f203B = [] by kernel_rfl] at hc'
    cases hc') (by decide) (by decide) (fun x y h => (ev203 x).trans h)
abbrev T_spec_SeenByAny_2 : Type := Int × List E_i64 × List E_Node × List E_Age × List E_Cell × List E_Vol × Int × Int × Int × Int × Int × Int
noncomputable def S_spec_SeenByAny_2 {R : Type} (k0 : Bool → Option R) (k1 : Unit → Option R) (again : T_spec_SeenByAny_2 → Option R) (t2 : T_spec_SeenByAny_2) : Option R :=
  bif (decide (t2.1 < ((List.length t2.2.2.2.2.2.1 : Nat) : Int))) then if (0 : Int) ≤ t2.1 then if t2.1 < ((List.length t2.2.2.2.2.2.1 : Nat) : Int) then Option.bind (bif (decide ((rd_Vol t2.2.2.2.2.2.1 t2.1).2.2.1 > t2.2.2.2.2.2.2.2.1)) then if (0 : Int) ≤ t2.1 then if t2.1 < ((List.length t2.2.2.2.2.2.1 : Nat) : Int) then Option.bind (F_spec_Sees (t2.2.1, t2.2.2.1, t2.2.2.2.1, t2.2.2.2.2.2.2.2.1, t2.2.2.2.2.2.2.2.2.1, t2.2.2.2.2.2.2.2.2.2.1, t2.2.2.2.2.2.2.2.2.2.2.1, t2.2.2.2.2.2.2.2.2.2.2.2, (rd_Vol t2.2.2.2.2.2.1 t2.1).2.1)) fun r2 => some r2 else none else none else some false) fun u1 => bif u1 then k0 true else again ((Go.IntKind.wrap .i64 (t2.1 + (1 : Int))), t2.2.1, t2.2.2.1, t2.2.2.2.1, t2.2.2.2.2.1, t2.2.2.2.2.2.1, t2.2.2.2.2.2.2.1, t2.2.2.2.2.2.2.2.1, t2.2.2.2.2.2.2.2.2.1, t2.2.2.2.2.2.2.2.2.2.1, t2.2.2.2.2.2.2.2.2.2.2.1, t2.2.2.2.2.2.2.2.2.2.2.2) else none else none else k1 ()
noncomputable def L_spec_SeenByAny_2 {R : Type} (k0 : Bool → Option R) (k1 : Unit → Option R) (t : T_spec_SeenByAny_2) : Option R := iter (S_spec_SeenByAny_2 k0 k1) FUEL t
noncomputable def F_spec_SeenByAny (x : List E_i64 × List E_Node × List E_Age × List E_Cell × List E_Vol × Int × Int × Int × Int × Int × Int) : Option (Bool) :=
  L_spec_SeenByAny_2 (fun x3 => some x3) (fun x4 => some false) ((0 : Int), x.1, x.2.1, x.2.2.1, x.2.2.2.1, x.2.2.2.2.1, x.2.2.2.2.2.1, x.2.2.2.2.2.2.1, x.2.2.2.2.2.2.2.1, x.2.2.2.2.2.2.2.2.1, x.2.2.2.2.2.2.2.2.2.1, x.2.2.2.2.2.2.2.2.2.2)
noncomputable def f159B : Code := match Tryz.f159.body with
  | some c => c
  | none => .skip
noncomputable def f159K : C.Sem := tab [⟨203, F_spec_Sees⟩]
def f159h2_0 : List Sh := [.dead, .dead, .box 2 0, .box 3 0, .dead, .v (.int .i64), .dead, .dead, .dead, .dead, .dead, .dead, .dead, .dead, .dead, .dead, .dead, .dead, .dead, .dead, .dead, .dead, .dead, .dead, .dead, .dead, .dead, .dead, .dead, .dead, .dead, .dead, .dead, .dead, .dead, .dead]
def f159o2_0 : List (Nat × OSh) := [(2, .box [.v (.sl 3 ts_i64), .v (.sl 97 ts_Node), .v (.sl 88 ts_Age), .v (.sl 94 ts_Cell), .v (.sl 90 ts_Vol), .v (.int .i64)]), (3, .box [.v (.int .i64), .v (.int .i64), .v (.int .i64), .v (.int .i64), .v (.int .i64)])]
def f159e2_0 (t : Int × List E_i64 × List E_Node × List E_Age × List E_Cell × List E_Vol × Int × Int × Int × Int × Int × Int) : St := ⟨[.dead, .dead, .box 2 0, .box 3 0, .dead, .val (.int .i64) t.1, .dead, .dead, .dead, .dead, .dead, .dead, .dead, .dead, .dead, .dead, .dead, .dead, .dead, .dead, .dead, .dead, .dead, .dead, .dead, .dead, .dead, .dead, .dead, .dead, .dead, .dead, .dead, .dead, .dead, .dead], [(2, .box [.val (.sl 3 ts_i64) t.2.1, .val (.sl 97 ts_Node) t.2.2.1, .val (.sl 88 ts_Age) t.2.2.2.1, .val (.sl 94 ts_Cell) t.2.2.2.2.1, .val (.sl 90 ts_Vol) t.2.2.2.2.2.1, .val (.int .i64) t.2.2.2.2.2.2.1]), (3, .box [.val (.int .i64) t.2.2.2.2.2.2.2.1, .val (.int .i64) t.2.2.2.2.2.2.2.2.1, .val (.int .i64) t.2.2.2.2.2.2.2.2.2.1, .val (.int .i64) t.2.2.2.2.2.2.2.2.2.2.1, .val (.int .i64) t.2.2.2.2.2.2.2.2.2.2.2])]⟩
def f159x2_0 (t : Bool) : St := ⟨[.dead, .dead, .dead, .dead, .val .bool t, .dead, .dead, .dead, .dead, .dead, .dead, .dead, .dead, .dead, .dead, .dead, .dead, .dead, .dead, .dead, .dead, .dead, .dead, .dead, .dead, .dead, .dead, .dead, .dead, .dead, .dead, .dead, .dead, .dead, .dead, .dead], []⟩
def f159x2_1 (t : Unit) : St := ⟨[.dead, .dead, .dead, .dead, .dead, .dead, .dead, .dead, .dead, .dead, .dead, .dead, .dead, .dead, .dead, .dead, .dead, .dead, .dead, .dead, .dead, .dead, .dead, .dead, .dead, .dead, .dead, .dead, .dead, .dead, .dead, .dead, .dead, .dead, .dead, .dead], []⟩
def f159u2_0 (s : St) : Option (Int × List E_i64 × List E_Node × List E_Age × List E_Cell × List E_Vol × Int × Int × Int × Int × Int × Int) := (unS f159h2_0 f159o2_0 s).map fun v => (v.1.2.2.2.2.2.1, v.2.1.1, v.2.1.2.1, v.2.1.2.2.1, v.2.1.2.2.2.1, v.2.1.2.2.2.2.1, v.2.1.2.2.2.2.2.1, v.2.2.1.1, v.2.2.1.2.1, v.2.2.1.2.2.1, v.2.2.1.2.2.2.1, v.2.2.1.2.2.2.2.1)
theorem f159un2_0 : ∀ (s : St) (t : Int × List E_i64 × List E_Node × List E_Age × List E_Cell × List E_Vol × Int × Int × Int × Int × Int × Int), f159u2_0 s = some t → f159e2_0 t = s := fun s v h => by
  obtain ⟨u, hu, rfl⟩ := Option.map_eq_some_iff.1 h
  exact (show f159e2_0 (u.1.2.2.2.2.2.1, u.2.1.1, u.2.1.2.1, u.2.1.2.2.1, u.2.1.2.2.2.1, u.2.1.2.2.2.2.1, u.2.1.2.2.2.2.2.1, u.2.2.1.1, u.2.2.1.2.1, u.2.2.1.2.2.1, u.2.2.1.2.2.2.1, u.2.2.1.2.2.2.2.1) = mkS f159h2_0 f159o2_0 u by kernel_rfl).trans (mkS_un f159h2_0 f159o2_0 s u hu)
def f159u2 : St → Option (Int × List E_i64 × List E_Node × List E_Age × List E_Cell × List E_Vol × Int × Int × Int × Int × Int × Int) := f159u2_0
def f159e2 : (Int × List E_i64 × List E_Node × List E_Age × List E_Cell × List E_Vol × Int × Int × Int × Int × Int × Int) → St := f159e2_0
theorem f159un2 : ∀ (s : St) (t : Int × List E_i64 × List E_Node × List E_Age × List E_Cell × List E_Vol × Int × Int × Int × Int × Int × Int), f159u2 s = some t → f159e2 t = s := f159un2_0
noncomputable def f159P : Lp := fun i s {_R} κ => bif Nat.beq i 2 then (f159u2 s).bind fun t => L_spec_SeenByAny_2 (fun t => κ (none) (f159x2_0 t)) (fun t => κ (some 0) (f159x2_1 t)) t else none
noncomputable def f159c2 : Code := (loopsOf f159B).getD 0 .skip
theorem f159A2 : C.live 159 (firstRegion f159c2) = some ([2, 3, 5, 23, 24, 25, 26, 27, 28, 29, 30, 31, 32, 33, 34], [4]) := by kernel_rfl
theorem f159B2 {R : Type} (κ : Option Nat → St → Option R) (s : St) : f159P (firstRegion f159c2) s κ = (f159u2 s).bind fun t => iter (S_spec_SeenByAny_2 (fun t => κ (none) (f159x2_0 t)) (fun t => κ (some 0) (f159x2_1 t))) FUEL t := by kernel_rfl
theorem f159C2 {R : Type} (κ : Option Nat → St → Option R) (again : St → Option R) (t : T_spec_SeenByAny_2) : stepL C f159K f159P 159 f159c2 [2, 3, 5, 23, 24, 25, 26, 27, 28, 29, 30, 31, 32, 33, 34] [4] κ again (f159e2 t) = S_spec_SeenByAny_2 (fun t => κ (none) (f159x2_0 t)) (fun t => κ (some 0) (f159x2_1 t)) (fun t => again (f159e2 t)) t := by kernel_rfl
theorem f159ok2 : LoopOk C f159K f159P 159 f159c2 := loop_ok f159A2 f159e2 f159u2 f159un2 (fun {_R} κ => S_spec_SeenByAny_2 (fun t => κ (none) (f159x2_0 t)) (fun t => κ (some 0) (f159x2_1 t))) (fun {_R} κ s => f159B2 κ s) (fun {_R} κ again t => f159C2 κ again t)
theorem k159 : Contract C Tryz.prog f159K := contract_tab _ (fun p hp => by
    simp only [List.mem_cons, List.mem_nil_iff, or_false] at hp
    rcases hp with rfl
    · exact ok203)
theorem ev159 (x : List E_i64 × List E_Node × List E_Age × List E_Cell × List E_Vol × Int × Int × Int × Int × Int × Int) : evalB C f159K f159P 159 Tryz.f159 f159B ⟨[.v true [(.sl 3 ts_i64), (.sl 97 ts_Node), (.sl 88 ts_Age), (.sl 94 ts_Cell), (.sl 90 ts_Vol), (.int .i64)] [false, false, false, false, false, false], .v true [(.int .i64), (.int .i64), (.int .i64), (.int .i64), (.int .i64)] [false, false, false, false, false]], [⟨false, [.bool], [false]⟩], false⟩ [(.sl 3 ts_i64), (.sl 97 ts_Node), (.sl 88 ts_Age), (.sl 94 ts_Cell), (.sl 90 ts_Vol), (.int .i64), (.int .i64), (.int .i64), (.int .i64), (.int .i64), (.int .i64)] [.bool] x = F_spec_SeenByAny x := by kernel_rfl
theorem ok159 : ContractAt C Tryz.prog 159 F_spec_SeenByAny := fn_sound (lp := f159P) tok mixed k159 (by kernel_rfl) (fn := Tryz.f159) (c := f159B) (sg := ⟨[.v true [(.sl 3 ts_i64), (.sl 97 ts_Node), (.sl 88 ts_Age), (.sl 94 ts_Cell), (.sl 90 ts_Vol), (.int .i64)] [false, false, false, false, false, false], .v true [(.int .i64), (.int .i64), (.int .i64), (.int .i64), (.int .i64)] [false, false, false, false, false]], [⟨false, [.bool], [false]⟩], false⟩) Tryz.func159 (by decide) (by kernel_rfl) (by kernel_rfl) (by kernel_rfl) (fun c' hc' => by
    rw [show loopsOf f159B = [f159c2] by kernel_rfl] at hc'
    simp only [List.mem_cons, List.mem_nil_iff, or_false] at hc'
    rcases hc' with rfl
    · exact f159ok2) (by decide) (by decide) (fun x y h => (ev159 x).trans h)
noncomputable def F_spec_SeenAbove (x : List E_i64 × List E_Node × List E_Age × Int × Int) : Option (Int × Int × Int × Int × Int × Bool) :=
  Option.bind (F_spec_PathOf (x.2.2.1, x.2.2.2.2)) fun r1 => bif (((List.length r1 : Nat) : Int) == (0 : Int)) then some ((0 : Int), (0 : Int), (0 : Int), (0 : Int), (0 : Int), false) else if (0 : Int) ≤ (1 : Int) then if (1 : Int) ≤ ((List.length r1 : Nat) : Int) then if ((List.length r1 : Nat) : Int) ≤ ((List.length r1 : Nat) : Int) then Option.bind (F_spec_l8Near (x.1, x.2.1, x.2.2.2.1, (List.drop (Int.toNat (1 : Int)) (List.take (Int.toNat ((List.length r1 : Nat) : Int)) r1)))) fun r2 => some (r2.1, r2.2.1, r2.2.2.1, r2.2.2.2.1, r2.2.2.2.2.1, r2.2.2.2.2.2) else none else none else none
noncomputable def f200B : Code := match Tryz.f200.body with
  | some c => c
  | none => .skip
noncomputable def f200K : C.Sem := tab [⟨236, F_spec_PathOf⟩, ⟨237, F_spec_l8Near⟩]
noncomputable def f200P : Lp := fun i s {_R} κ => none
theorem k200 : Contract C Tryz.prog f200K := contract_tab _ (fun p hp => by
    simp only [List.mem_cons, List.mem_nil_iff, or_false] at hp
    rcases hp with rfl | rfl
    · exact ok236
    · exact ok237)
theorem ev200 (x : List E_i64 × List E_Node × List E_Age × Int × Int) : evalB C f200K f200P 200 Tryz.f200 f200B ⟨[.v true [(.sl 3 ts_i64), (.sl 97 ts_Node)] [false, false], .v false [(.sl 88 ts_Age)] [false], .v false [(.int .i64)] [false], .v false [(.int .i64)] [false]], [⟨true, [(.int .i64), (.int .i64), (.int .i64), (.int .i64), (.int .i64)], [false, false, false, false, false]⟩, ⟨false, [.bool], [false]⟩], false⟩ [(.sl 3 ts_i64), (.sl 97 ts_Node), (.sl 88 ts_Age), (.int .i64), (.int .i64)] [(.int .i64), (.int .i64), (.int .i64), (.int .i64), (.int .i64), .bool] x = F_spec_SeenAbove x := by kernel_rfl
theorem ok200 : ContractAt C Tryz.prog 200 F_spec_SeenAbove := fn_sound (lp := f200P) tok mixed k200 (by kernel_rfl) (fn := Tryz.f200) (c := f200B) (sg := ⟨[.v true [(.sl 3 ts_i64), (.sl 97 ts_Node)] [false, false], .v false [(.sl 88 ts_Age)] [false], .v false [(.int .i64)] [false], .v false [(.int .i64)] [false]], [⟨true, [(.int .i64), (.int .i64), (.int .i64), (.int .i64), (.int .i64)], [false, false, false, false, false]⟩, ⟨false, [.bool], [false]⟩], false⟩) Tryz.func200 (by decide) (by kernel_rfl) (by kernel_rfl) (by kernel_rfl) (fun c' hc' => by
    rw [show loopsOf f200B = [] by kernel_rfl] at hc'
    cases hc') (by decide) (by decide) (fun x y h => (ev200 x).trans h)
abbrev T_spec_Idle_2 : Type := Int × Int × List E_i64 × List E_Node × List E_Age × List E_Cell × List E_Vol × Int
noncomputable def S_spec_Idle_2 {R : Type} (k0 : Bool → Option R) (k1 : Unit → Option R) (again : T_spec_Idle_2 → Option R) (t2 : T_spec_Idle_2) : Option R :=
  bif (decide (t2.2.1 < ((List.length t2.2.2.2.2.2.2.1 : Nat) : Int))) then if (0 : Int) ≤ t2.2.1 then if t2.2.1 < ((List.length t2.2.2.2.2.2.2.1 : Nat) : Int) then bif ((rd_Vol t2.2.2.2.2.2.2.1 t2.2.1).2.1 == t2.1) then k0 false else again (t2.1, (Go.IntKind.wrap .i64 (t2.2.1 + (1 : Int))), t2.2.2.1, t2.2.2.2.1, t2.2.2.2.2.1, t2.2.2.2.2.2.1, t2.2.2.2.2.2.2.1, t2.2.2.2.2.2.2.2) else none else none else k1 ()
noncomputable def L_spec_Idle_2 {R : Type} (k0 : Bool → Option R) (k1 : Unit → Option R) (t : T_spec_Idle_2) : Option R := iter (S_spec_Idle_2 k0 k1) FUEL t
noncomputable def F_spec_Idle (x : List E_i64 × List E_Node × List E_Age × List E_Cell × List E_Vol × Int × Int) : Option (Bool) :=
  L_spec_Idle_2 (fun x1 => some x1) (fun x2 => some true) (x.2.2.2.2.2.2, (0 : Int), x.1, x.2.1, x.2.2.1, x.2.2.2.1, x.2.2.2.2.1, x.2.2.2.2.2.1)
noncomputable def f202B : Code := match Tryz.f202.body with
  | some c => c
  | none => .skip
noncomputable def f202K : C.Sem := tab []
def f202h2_0 : List Sh := [.dead, .v (.int .i64), .box 2 0, .dead, .dead, .v (.int .i64), .dead, .dead, .dead, .dead, .dead, .dead, .dead, .dead, .dead, .dead, .dead, .dead, .dead, .dead, .dead]
def f202o2_0 : List (Nat × OSh) := [(2, .box [.v (.sl 3 ts_i64), .v (.sl 97 ts_Node), .v (.sl 88 ts_Age), .v (.sl 94 ts_Cell), .v (.sl 90 ts_Vol), .v (.int .i64)])]
def f202e2_0 (t : Int × Int × List E_i64 × List E_Node × List E_Age × List E_Cell × List E_Vol × Int) : St := ⟨[.dead, .val (.int .i64) t.1, .box 2 0, .dead, .dead, .val (.int .i64) t.2.1, .dead, .dead, .dead, .dead, .dead, .dead, .dead, .dead, .dead, .dead, .dead, .dead, .dead, .dead, .dead], [(2, .box [.val (.sl 3 ts_i64) t.2.2.1, .val (.sl 97 ts_Node) t.2.2.2.1, .val (.sl 88 ts_Age) t.2.2.2.2.1, .val (.sl 94 ts_Cell) t.2.2.2.2.2.1, .val (.sl 90 ts_Vol) t.2.2.2.2.2.2.1, .val (.int .i64) t.2.2.2.2.2.2.2])]⟩
def f202x2_0 (t : Bool) : St := ⟨[.dead, .dead, .dead, .dead, .val .bool t, .dead, .dead, .dead, .dead, .dead, .dead, .dead, .dead, .dead, .dead, .dead, .dead, .dead, .dead, .dead, .dead], []⟩
def f202x2_1 (t : Unit) : St := ⟨[.dead, .dead, .dead, .dead, .dead, .dead, .dead, .dead, .dead, .dead, .dead, .dead, .dead, .dead, .dead, .dead, .dead, .dead, .dead, .dead, .dead], []⟩
def f202u2_0 (s : St) : Option (Int × Int × List E_i64 × List E_Node × List E_Age × List E_Cell × List E_Vol × Int) := (unS f202h2_0 f202o2_0 s).map fun v => (v.1.2.1, v.1.2.2.2.2.2.1, v.2.1.1, v.2.1.2.1, v.2.1.2.2.1, v.2.1.2.2.2.1, v.2.1.2.2.2.2.1, v.2.1.2.2.2.2.2.1)
theorem f202un2_0 : ∀ (s : St) (t : Int × Int × List E_i64 × List E_Node × List E_Age × List E_Cell × List E_Vol × Int), f202u2_0 s = some t → f202e2_0 t = s := fun s v h => by
  obtain ⟨u, hu, rfl⟩ := Option.map_eq_some_iff.1 h
  exact (show f202e2_0 (u.1.2.1, u.1.2.2.2.2.2.1, u.2.1.1, u.2.1.2.1, u.2.1.2.2.1, u.2.1.2.2.2.1, u.2.1.2.2.2.2.1, u.2.1.2.2.2.2.2.1) = mkS f202h2_0 f202o2_0 u by kernel_rfl).trans (mkS_un f202h2_0 f202o2_0 s u hu)
def f202u2 : St → Option (Int × Int × List E_i64 × List E_Node × List E_Age × List E_Cell × List E_Vol × Int) := f202u2_0
def f202e2 : (Int × Int × List E_i64 × List E_Node × List E_Age × List E_Cell × List E_Vol × Int) → St := f202e2_0
theorem f202un2 : ∀ (s : St) (t : Int × Int × List E_i64 × List E_Node × List E_Age × List E_Cell × List E_Vol × Int), f202u2 s = some t → f202e2 t = s := f202un2_0
noncomputable def f202P : Lp := fun i s {_R} κ => bif Nat.beq i 2 then (f202u2 s).bind fun t => L_spec_Idle_2 (fun t => κ (none) (f202x2_0 t)) (fun t => κ (some 0) (f202x2_1 t)) t else none
noncomputable def f202c2 : Code := (loopsOf f202B).getD 0 .skip
theorem f202A2 : C.live 202 (firstRegion f202c2) = some ([1, 2, 5], [4]) := by kernel_rfl
theorem f202B2 {R : Type} (κ : Option Nat → St → Option R) (s : St) : f202P (firstRegion f202c2) s κ = (f202u2 s).bind fun t => iter (S_spec_Idle_2 (fun t => κ (none) (f202x2_0 t)) (fun t => κ (some 0) (f202x2_1 t))) FUEL t := by kernel_rfl
theorem f202C2 {R : Type} (κ : Option Nat → St → Option R) (again : St → Option R) (t : T_spec_Idle_2) : stepL C f202K f202P 202 f202c2 [1, 2, 5] [4] κ again (f202e2 t) = S_spec_Idle_2 (fun t => κ (none) (f202x2_0 t)) (fun t => κ (some 0) (f202x2_1 t)) (fun t => again (f202e2 t)) t := by kernel_rfl
theorem f202ok2 : LoopOk C f202K f202P 202 f202c2 := loop_ok f202A2 f202e2 f202u2 f202un2 (fun {_R} κ => S_spec_Idle_2 (fun t => κ (none) (f202x2_0 t)) (fun t => κ (some 0) (f202x2_1 t))) (fun {_R} κ s => f202B2 κ s) (fun {_R} κ again t => f202C2 κ again t)
theorem k202 : Contract C Tryz.prog f202K := contract_tab _ (fun p hp => by cases hp)
theorem ev202 (x : List E_i64 × List E_Node × List E_Age × List E_Cell × List E_Vol × Int × Int) : evalB C f202K f202P 202 Tryz.f202 f202B ⟨[.v true [(.sl 3 ts_i64), (.sl 97 ts_Node), (.sl 88 ts_Age), (.sl 94 ts_Cell), (.sl 90 ts_Vol), (.int .i64)] [false, false, false, false, false, false], .v false [(.int .i64)] [false]], [⟨false, [.bool], [false]⟩], false⟩ [(.sl 3 ts_i64), (.sl 97 ts_Node), (.sl 88 ts_Age), (.sl 94 ts_Cell), (.sl 90 ts_Vol), (.int .i64), (.int .i64)] [.bool] x = F_spec_Idle x := by kernel_rfl
theorem ok202 : ContractAt C Tryz.prog 202 F_spec_Idle := fn_sound (lp := f202P) tok mixed k202 (by kernel_rfl) (fn := Tryz.f202) (c := f202B) (sg := ⟨[.v true [(.sl 3 ts_i64), (.sl 97 ts_Node), (.sl 88 ts_Age), (.sl 94 ts_Cell), (.sl 90 ts_Vol), (.int .i64)] [false, false, false, false, false, false], .v false [(.int .i64)] [false]], [⟨false, [.bool], [false]⟩], false⟩) Tryz.func202 (by decide) (by kernel_rfl) (by kernel_rfl) (by kernel_rfl) (fun c' hc' => by
    rw [show loopsOf f202B = [f202c2] by kernel_rfl] at hc'
    simp only [List.mem_cons, List.mem_nil_iff, or_false] at hc'
    rcases hc' with rfl
    · exact f202ok2) (by decide) (by decide) (fun x y h => (ev202 x).trans h)
noncomputable def F_spec_l13Kid (x : List E_i64 × List E_Node × List E_Age × List E_Cell × List E_Vol × Int × Int) : Option (Int) :=
  Option.bind (F_spec_KidsOf (x.2.2.1, x.2.2.2.2.2.2)) fun r1 => Option.bind (F_spec_Idle (x.1, x.2.1, x.2.2.1, x.2.2.2.1, x.2.2.2.2.1, x.2.2.2.2.2.1, x.2.2.2.2.2.2)) fun r2 => Option.bind (bif (!r2) then some true else some (((List.length r1 : Nat) : Int) != (1 : Int))) fun u3 => bif u3 then some (0 : Int) else if (0 : Int) ≤ (0 : Int) then if (0 : Int) < ((List.length r1 : Nat) : Int) then some (rd_i64 r1 (0 : Int)) else none else none
noncomputable def f170B : Code := match Tryz.f170.body with
  | some c => c
  | none => .skip
noncomputable def f170K : C.Sem := tab [⟨179, F_spec_KidsOf⟩, ⟨202, F_spec_Idle⟩]
noncomputable def f170P : Lp := fun i s {_R} κ => none
theorem k170 : Contract C Tryz.prog f170K := contract_tab _ (fun p hp => by
    simp only [List.mem_cons, List.mem_nil_iff, or_false] at hp
    rcases hp with rfl | rfl
    · exact ok179
    · exact ok202)
theorem ev170 (x : List E_i64 × List E_Node × List E_Age × List E_Cell × List E_Vol × Int × Int) : evalB C f170K f170P 170 Tryz.f170 f170B ⟨[.v true [(.sl 3 ts_i64), (.sl 97 ts_Node), (.sl 88 ts_Age), (.sl 94 ts_Cell), (.sl 90 ts_Vol), (.int .i64)] [false, false, false, false, false, false], .v false [(.int .i64)] [false]], [⟨false, [(.int .i64)], [false]⟩], false⟩ [(.sl 3 ts_i64), (.sl 97 ts_Node), (.sl 88 ts_Age), (.sl 94 ts_Cell), (.sl 90 ts_Vol), (.int .i64), (.int .i64)] [(.int .i64)] x = F_spec_l13Kid x := by kernel_rfl
theorem ok170 : ContractAt C Tryz.prog 170 F_spec_l13Kid := fn_sound (lp := f170P) tok mixed k170 (by kernel_rfl) (fn := Tryz.f170) (c := f170B) (sg := ⟨[.v true [(.sl 3 ts_i64), (.sl 97 ts_Node), (.sl 88 ts_Age), (.sl 94 ts_Cell), (.sl 90 ts_Vol), (.int .i64)] [false, false, false, false, false, false], .v false [(.int .i64)] [false]], [⟨false, [(.int .i64)], [false]⟩], false⟩) Tryz.func170 (by decide) (by kernel_rfl) (by kernel_rfl) (by kernel_rfl) (fun c' hc' => by
    rw [show loopsOf f170B = [] by kernel_rfl] at hc'
    cases hc') (by decide) (by decide) (fun x y h => (ev170 x).trans h)
abbrev T_spec_WhereIn_3 : Type := Int × Int × Int × Int × List E_i64 × List E_Node
noncomputable def S_spec_WhereIn_3 {R : Type} (k0 : Int → Option R) (again : T_spec_WhereIn_3 → Option R) (t3 : T_spec_WhereIn_3) : Option R :=
  bif (decide (t3.2.2.2.1 < ((List.length t3.2.2.2.2.1 : Nat) : Int))) then if (0 : Int) ≤ t3.2.2.2.1 then if t3.2.2.2.1 < ((List.length t3.2.2.2.2.1 : Nat) : Int) then Option.bind (F_spec_SpotOf (t3.1, t3.2.1)) fun r1 => bif (decide ((rd_i64 t3.2.2.2.2.1 t3.2.2.2.1) ≤ r1)) then again (t3.1, t3.2.1, t3.2.2.2.1, (Go.IntKind.wrap .i64 (t3.2.2.2.1 + (1 : Int))), t3.2.2.2.2.1, t3.2.2.2.2.2) else again (t3.1, t3.2.1, t3.2.2.1, (Go.IntKind.wrap .i64 (t3.2.2.2.1 + (1 : Int))), t3.2.2.2.2.1, t3.2.2.2.2.2) else none else none else k0 t3.2.2.1
noncomputable def L_spec_WhereIn_3 {R : Type} (k0 : Int → Option R) (t : T_spec_WhereIn_3) : Option R := iter (S_spec_WhereIn_3 k0) FUEL t
noncomputable def F_spec_WhereIn (x : List E_i64 × List E_Node × Int × Int) : Option (Int) :=
  L_spec_WhereIn_3 (fun x2 => some x2) (x.2.2.1, x.2.2.2, (-1 : Int), (0 : Int), x.1, x.2.1)
noncomputable def f210B : Code := match Tryz.f210.body with
  | some c => c
  | none => .skip
noncomputable def f210K : C.Sem := tab [⟨246, F_spec_SpotOf⟩]
def f210h3_0 : List Sh := [.dead, .v (.int .i64), .v (.int .i64), .box 3 0, .dead, .dead, .dead, .v (.int .i64), .v (.int .i64), .dead, .dead, .dead, .dead, .dead, .dead, .dead, .dead, .dead, .dead, .dead, .dead, .dead, .dead, .dead, .dead, .dead, .dead]
def f210o3_0 : List (Nat × OSh) := [(3, .box [.v (.sl 3 ts_i64), .v (.sl 97 ts_Node)])]
def f210e3_0 (t : Int × Int × Int × Int × List E_i64 × List E_Node) : St := ⟨[.dead, .val (.int .i64) t.1, .val (.int .i64) t.2.1, .box 3 0, .dead, .dead, .dead, .val (.int .i64) t.2.2.1, .val (.int .i64) t.2.2.2.1, .dead, .dead, .dead, .dead, .dead, .dead, .dead, .dead, .dead, .dead, .dead, .dead, .dead, .dead, .dead, .dead, .dead, .dead], [(3, .box [.val (.sl 3 ts_i64) t.2.2.2.2.1, .val (.sl 97 ts_Node) t.2.2.2.2.2])]⟩
def f210x3_0 (t : Int) : St := ⟨[.dead, .dead, .dead, .dead, .dead, .dead, .dead, .val (.int .i64) t, .dead, .dead, .dead, .dead, .dead, .dead, .dead, .dead, .dead, .dead, .dead, .dead, .dead, .dead, .dead, .dead, .dead, .dead, .dead], []⟩
def f210u3_0 (s : St) : Option (Int × Int × Int × Int × List E_i64 × List E_Node) := (unS f210h3_0 f210o3_0 s).map fun v => (v.1.2.1, v.1.2.2.1, v.1.2.2.2.2.2.2.2.1, v.1.2.2.2.2.2.2.2.2.1, v.2.1.1, v.2.1.2.1)
theorem f210un3_0 : ∀ (s : St) (t : Int × Int × Int × Int × List E_i64 × List E_Node), f210u3_0 s = some t → f210e3_0 t = s := fun s v h => by
  obtain ⟨u, hu, rfl⟩ := Option.map_eq_some_iff.1 h
  exact (show f210e3_0 (u.1.2.1, u.1.2.2.1, u.1.2.2.2.2.2.2.2.1, u.1.2.2.2.2.2.2.2.2.1, u.2.1.1, u.2.1.2.1) = mkS f210h3_0 f210o3_0 u by kernel_rfl).trans (mkS_un f210h3_0 f210o3_0 s u hu)
def f210u3 : St → Option (Int × Int × Int × Int × List E_i64 × List E_Node) := f210u3_0
def f210e3 : (Int × Int × Int × Int × List E_i64 × List E_Node) → St := f210e3_0
theorem f210un3 : ∀ (s : St) (t : Int × Int × Int × Int × List E_i64 × List E_Node), f210u3 s = some t → f210e3 t = s := f210un3_0
noncomputable def f210P : Lp := fun i s {_R} κ => bif Nat.beq i 3 then (f210u3 s).bind fun t => L_spec_WhereIn_3 (fun t => κ (some 0) (f210x3_0 t)) t else none
noncomputable def f210c3 : Code := (loopsOf f210B).getD 0 .skip
theorem f210A3 : C.live 210 (firstRegion f210c3) = some ([1, 2, 3, 7, 8], [7]) := by kernel_rfl
theorem f210B3 {R : Type} (κ : Option Nat → St → Option R) (s : St) : f210P (firstRegion f210c3) s κ = (f210u3 s).bind fun t => iter (S_spec_WhereIn_3 (fun t => κ (some 0) (f210x3_0 t))) FUEL t := by kernel_rfl
theorem f210C3 {R : Type} (κ : Option Nat → St → Option R) (again : St → Option R) (t : T_spec_WhereIn_3) : stepL C f210K f210P 210 f210c3 [1, 2, 3, 7, 8] [7] κ again (f210e3 t) = S_spec_WhereIn_3 (fun t => κ (some 0) (f210x3_0 t)) (fun t => again (f210e3 t)) t := by kernel_rfl
theorem f210ok3 : LoopOk C f210K f210P 210 f210c3 := loop_ok f210A3 f210e3 f210u3 f210un3 (fun {_R} κ => S_spec_WhereIn_3 (fun t => κ (some 0) (f210x3_0 t))) (fun {_R} κ s => f210B3 κ s) (fun {_R} κ again t => f210C3 κ again t)
theorem k210 : Contract C Tryz.prog f210K := contract_tab _ (fun p hp => by
    simp only [List.mem_cons, List.mem_nil_iff, or_false] at hp
    rcases hp with rfl
    · exact ok246)
theorem ev210 (x : List E_i64 × List E_Node × Int × Int) : evalB C f210K f210P 210 Tryz.f210 f210B ⟨[.v true [(.sl 3 ts_i64), (.sl 97 ts_Node)] [false, false], .v false [(.int .i64)] [false], .v false [(.int .i64)] [false]], [⟨false, [(.int .i64)], [false]⟩], false⟩ [(.sl 3 ts_i64), (.sl 97 ts_Node), (.int .i64), (.int .i64)] [(.int .i64)] x = F_spec_WhereIn x := by kernel_rfl
theorem ok210 : ContractAt C Tryz.prog 210 F_spec_WhereIn := fn_sound (lp := f210P) tok mixed k210 (by kernel_rfl) (fn := Tryz.f210) (c := f210B) (sg := ⟨[.v true [(.sl 3 ts_i64), (.sl 97 ts_Node)] [false, false], .v false [(.int .i64)] [false], .v false [(.int .i64)] [false]], [⟨false, [(.int .i64)], [false]⟩], false⟩) Tryz.func210 (by decide) (by kernel_rfl) (by kernel_rfl) (by kernel_rfl) (fun c' hc' => by
    rw [show loopsOf f210B = [f210c3] by kernel_rfl] at hc'
    simp only [List.mem_cons, List.mem_nil_iff, or_false] at hc'
    rcases hc' with rfl
    · exact f210ok3) (by decide) (by decide) (fun x y h => (ev210 x).trans h)
abbrev T_spec_SetAt_2 : Type := List E_Key × Int × Int × Int × Int × Int × Int × Int × Int
noncomputable def S_spec_SetAt_2 {R : Type} (k0 : (Bool × Int × Int × Int × Int × Int) → Option R) (k1 : (Int × Int × Int × Int × Int) → Option R) (again : T_spec_SetAt_2 → Option R) (t2 : T_spec_SetAt_2) : Option R :=
  bif (decide (t2.2.2.2.1 < ((List.length t2.1 : Nat) : Int))) then if (0 : Int) ≤ t2.2.2.2.1 then if t2.2.2.2.1 < ((List.length t2.1 : Nat) : Int) then Option.bind (bif ((rd_Key t2.1 t2.2.2.2.1).1 == t2.2.1) then if (0 : Int) ≤ t2.2.2.2.1 then if t2.2.2.2.1 < ((List.length t2.1 : Nat) : Int) then some ((rd_Key t2.1 t2.2.2.2.1).2.1 == t2.2.2.1) else none else none else some false) fun u1 => bif u1 then if (0 : Int) ≤ t2.2.2.2.1 then if t2.2.2.2.1 < ((List.length t2.1 : Nat) : Int) then k0 (true, (rd_Key t2.1 t2.2.2.2.1).1, (rd_Key t2.1 t2.2.2.2.1).2.1, (rd_Key t2.1 t2.2.2.2.1).2.2.1, (rd_Key t2.1 t2.2.2.2.1).2.2.2.1, (rd_Key t2.1 t2.2.2.2.1).2.2.2.2) else none else none else again (t2.1, t2.2.1, t2.2.2.1, (Go.IntKind.wrap .i64 (t2.2.2.2.1 + (1 : Int))), t2.2.2.2.2.1, t2.2.2.2.2.2.1, t2.2.2.2.2.2.2.1, t2.2.2.2.2.2.2.2.1, t2.2.2.2.2.2.2.2.2) else none else none else k1 (t2.2.2.2.2.1, t2.2.2.2.2.2.1, t2.2.2.2.2.2.2.1, t2.2.2.2.2.2.2.2.1, t2.2.2.2.2.2.2.2.2)
noncomputable def L_spec_SetAt_2 {R : Type} (k0 : (Bool × Int × Int × Int × Int × Int) → Option R) (k1 : (Int × Int × Int × Int × Int) → Option R) (t : T_spec_SetAt_2) : Option R := iter (S_spec_SetAt_2 k0 k1) FUEL t
noncomputable def F_spec_SetAt (x : List E_Key × Int × Int) : Option (Int × Int × Int × Int × Int × Bool) :=
  L_spec_SetAt_2 (fun x2 => some (x2.2.1, x2.2.2.1, x2.2.2.2.1, x2.2.2.2.2.1, x2.2.2.2.2.2, x2.1)) (fun x3 => some ((0 : Int), (0 : Int), (0 : Int), (0 : Int), (0 : Int), false)) (x.1, x.2.1, x.2.2, (0 : Int), (0 : Int), (0 : Int), (0 : Int), (0 : Int), (0 : Int))
noncomputable def f247B : Code := match Tryz.f247.body with
  | some c => c
  | none => .skip
noncomputable def f247K : C.Sem := tab []
def f247h2_0 : List Sh := [.v (.sl 105 ts_Key), .v (.int .i64), .v (.int .i64), .dead, .dead, .dead, .box 6 0, .dead, .v (.int .i64), .dead, .dead, .dead, .dead, .dead, .dead, .dead, .dead, .dead, .dead, .dead, .dead, .dead, .dead, .dead, .dead, .dead, .dead, .dead, .dead, .dead, .dead, .dead, .dead, .dead, .dead, .dead]
def f247o2_0 : List (Nat × OSh) := [(6, .box [.v (.int .i64), .v (.int .i64), .v (.int .i64), .v (.int .i64), .v (.int .i64)])]
def f247e2_0 (t : List E_Key × Int × Int × Int × Int × Int × Int × Int × Int) : St := ⟨[.val (.sl 105 ts_Key) t.1, .val (.int .i64) t.2.1, .val (.int .i64) t.2.2.1, .dead, .dead, .dead, .box 6 0, .dead, .val (.int .i64) t.2.2.2.1, .dead, .dead, .dead, .dead, .dead, .dead, .dead, .dead, .dead, .dead, .dead, .dead, .dead, .dead, .dead, .dead, .dead, .dead, .dead, .dead, .dead, .dead, .dead, .dead, .dead, .dead, .dead], [(6, .box [.val (.int .i64) t.2.2.2.2.1, .val (.int .i64) t.2.2.2.2.2.1, .val (.int .i64) t.2.2.2.2.2.2.1, .val (.int .i64) t.2.2.2.2.2.2.2.1, .val (.int .i64) t.2.2.2.2.2.2.2.2])]⟩
def f247x2_0 (t : Bool × Int × Int × Int × Int × Int) : St := ⟨[.dead, .dead, .dead, .dead, .dead, .dead, .box 6 0, .val .bool t.1, .dead, .dead, .dead, .dead, .dead, .dead, .dead, .dead, .dead, .dead, .dead, .dead, .dead, .dead, .dead, .dead, .dead, .dead, .dead, .dead, .dead, .dead, .dead, .dead, .dead, .dead, .dead, .dead], [(6, .box [.val (.int .i64) t.2.1, .val (.int .i64) t.2.2.1, .val (.int .i64) t.2.2.2.1, .val (.int .i64) t.2.2.2.2.1, .val (.int .i64) t.2.2.2.2.2])]⟩
def f247x2_1 (t : Int × Int × Int × Int × Int) : St := ⟨[.dead, .dead, .dead, .dead, .dead, .dead, .box 6 0, .dead, .dead, .dead, .dead, .dead, .dead, .dead, .dead, .dead, .dead, .dead, .dead, .dead, .dead, .dead, .dead, .dead, .dead, .dead, .dead, .dead, .dead, .dead, .dead, .dead, .dead, .dead, .dead, .dead], [(6, .box [.val (.int .i64) t.1, .val (.int .i64) t.2.1, .val (.int .i64) t.2.2.1, .val (.int .i64) t.2.2.2.1, .val (.int .i64) t.2.2.2.2])]⟩
def f247u2_0 (s : St) : Option (List E_Key × Int × Int × Int × Int × Int × Int × Int × Int) := (unS f247h2_0 f247o2_0 s).map fun v => (v.1.1, v.1.2.1, v.1.2.2.1, v.1.2.2.2.2.2.2.2.2.1, v.2.1.1, v.2.1.2.1, v.2.1.2.2.1, v.2.1.2.2.2.1, v.2.1.2.2.2.2.1)
theorem f247un2_0 : ∀ (s : St) (t : List E_Key × Int × Int × Int × Int × Int × Int × Int × Int), f247u2_0 s = some t → f247e2_0 t = s := fun s v h => by
  obtain ⟨u, hu, rfl⟩ := Option.map_eq_some_iff.1 h
  exact (show f247e2_0 (u.1.1, u.1.2.1, u.1.2.2.1, u.1.2.2.2.2.2.2.2.2.1, u.2.1.1, u.2.1.2.1, u.2.1.2.2.1, u.2.1.2.2.2.1, u.2.1.2.2.2.2.1) = mkS f247h2_0 f247o2_0 u by kernel_rfl).trans (mkS_un f247h2_0 f247o2_0 s u hu)
def f247u2 : St → Option (List E_Key × Int × Int × Int × Int × Int × Int × Int × Int) := f247u2_0
def f247e2 : (List E_Key × Int × Int × Int × Int × Int × Int × Int × Int) → St := f247e2_0
theorem f247un2 : ∀ (s : St) (t : List E_Key × Int × Int × Int × Int × Int × Int × Int × Int), f247u2 s = some t → f247e2 t = s := f247un2_0
noncomputable def f247P : Lp := fun i s {_R} κ => bif Nat.beq i 2 then (f247u2 s).bind fun t => L_spec_SetAt_2 (fun t => κ (none) (f247x2_0 t)) (fun t => κ (some 0) (f247x2_1 t)) t else none
noncomputable def f247c2 : Code := (loopsOf f247B).getD 0 .skip
theorem f247A2 : C.live 247 (firstRegion f247c2) = some ([0, 1, 2, 6, 8, 23, 24, 25, 26, 27, 28, 29], [6, 7]) := by kernel_rfl
theorem f247B2 {R : Type} (κ : Option Nat → St → Option R) (s : St) : f247P (firstRegion f247c2) s κ = (f247u2 s).bind fun t => iter (S_spec_SetAt_2 (fun t => κ (none) (f247x2_0 t)) (fun t => κ (some 0) (f247x2_1 t))) FUEL t := by kernel_rfl
theorem f247C2 {R : Type} (κ : Option Nat → St → Option R) (again : St → Option R) (t : T_spec_SetAt_2) : stepL C f247K f247P 247 f247c2 [0, 1, 2, 6, 8, 23, 24, 25, 26, 27, 28, 29] [6, 7] κ again (f247e2 t) = S_spec_SetAt_2 (fun t => κ (none) (f247x2_0 t)) (fun t => κ (some 0) (f247x2_1 t)) (fun t => again (f247e2 t)) t := by kernel_rfl
theorem f247ok2 : LoopOk C f247K f247P 247 f247c2 := loop_ok f247A2 f247e2 f247u2 f247un2 (fun {_R} κ => S_spec_SetAt_2 (fun t => κ (none) (f247x2_0 t)) (fun t => κ (some 0) (f247x2_1 t))) (fun {_R} κ s => f247B2 κ s) (fun {_R} κ again t => f247C2 κ again t)
theorem k247 : Contract C Tryz.prog f247K := contract_tab _ (fun p hp => by cases hp)
theorem ev247 (x : List E_Key × Int × Int) : evalB C f247K f247P 247 Tryz.f247 f247B ⟨[.v false [(.sl 105 ts_Key)] [false], .v false [(.int .i64)] [false], .v false [(.int .i64)] [false]], [⟨true, [(.int .i64), (.int .i64), (.int .i64), (.int .i64), (.int .i64)], [false, false, false, false, false]⟩, ⟨false, [.bool], [false]⟩], false⟩ [(.sl 105 ts_Key), (.int .i64), (.int .i64)] [(.int .i64), (.int .i64), (.int .i64), (.int .i64), (.int .i64), .bool] x = F_spec_SetAt x := by kernel_rfl
theorem ok247 : ContractAt C Tryz.prog 247 F_spec_SetAt := fn_sound (lp := f247P) tok mixed k247 (by kernel_rfl) (fn := Tryz.f247) (c := f247B) (sg := ⟨[.v false [(.sl 105 ts_Key)] [false], .v false [(.int .i64)] [false], .v false [(.int .i64)] [false]], [⟨true, [(.int .i64), (.int .i64), (.int .i64), (.int .i64), (.int .i64)], [false, false, false, false, false]⟩, ⟨false, [.bool], [false]⟩], false⟩) Tryz.func247 (by decide) (by kernel_rfl) (by kernel_rfl) (by kernel_rfl) (fun c' hc' => by
    rw [show loopsOf f247B = [f247c2] by kernel_rfl] at hc'
    simp only [List.mem_cons, List.mem_nil_iff, or_false] at hc'
    rcases hc' with rfl
    · exact f247ok2) (by decide) (by decide) (fun x y h => (ev247 x).trans h)
abbrev T_spec_NodeAt_2 : Type := Int × Int × Int × List E_s_Key × Int × Int × Int × Int × Int
noncomputable def S_spec_NodeAt_2 {R : Type} (k0 : (Bool × Int × Int × Int × Int × Int) → Option R) (k1 : (Int × Int × Int × Int × Int) → Option R) (again : T_spec_NodeAt_2 → Option R) (t2 : T_spec_NodeAt_2) : Option R :=
  bif (decide (t2.2.2.1 ≥ (0 : Int))) then if (0 : Int) ≤ t2.2.2.1 then if t2.2.2.1 < ((List.length t2.2.2.2.1 : Nat) : Int) then Option.bind (F_spec_SetAt ((rd_s_Key t2.2.2.2.1 t2.2.2.1), t2.1, t2.2.1)) fun r1 => Option.bind (bif r1.2.2.2.2.2 then some (r1.2.2.1 == (0 : Int)) else some false) fun u2 => bif u2 then k0 (false, (0 : Int), (0 : Int), (0 : Int), (0 : Int), (0 : Int)) else bif r1.2.2.2.2.2 then k0 (true, r1.1, r1.2.1, r1.2.2.1, r1.2.2.2.1, r1.2.2.2.2.1) else again (t2.1, t2.2.1, (Go.IntKind.wrap .i64 (t2.2.2.1 - (1 : Int))), t2.2.2.2.1, t2.2.2.2.2.1, t2.2.2.2.2.2.1, t2.2.2.2.2.2.2.1, t2.2.2.2.2.2.2.2.1, t2.2.2.2.2.2.2.2.2) else none else none else k1 (t2.2.2.2.2.1, t2.2.2.2.2.2.1, t2.2.2.2.2.2.2.1, t2.2.2.2.2.2.2.2.1, t2.2.2.2.2.2.2.2.2)
noncomputable def L_spec_NodeAt_2 {R : Type} (k0 : (Bool × Int × Int × Int × Int × Int) → Option R) (k1 : (Int × Int × Int × Int × Int) → Option R) (t : T_spec_NodeAt_2) : Option R := iter (S_spec_NodeAt_2 k0 k1) FUEL t
noncomputable def F_spec_NodeAt (x : List E_s_Key × Int × Int) : Option (Int × Int × Int × Int × Int × Bool) :=
  L_spec_NodeAt_2 (fun x3 => some (x3.2.1, x3.2.2.1, x3.2.2.2.1, x3.2.2.2.2.1, x3.2.2.2.2.2, x3.1)) (fun x4 => some ((0 : Int), (0 : Int), (0 : Int), (0 : Int), (0 : Int), false)) (x.2.1, x.2.2, (Go.IntKind.wrap .i64 (((List.length x.1 : Nat) : Int) - (1 : Int))), x.1, (0 : Int), (0 : Int), (0 : Int), (0 : Int), (0 : Int))
noncomputable def f266B : Code := match Tryz.f266.body with
  | some c => c
  | none => .skip
noncomputable def f266K : C.Sem := tab [⟨247, F_spec_SetAt⟩]
def f266h2_0 : List Sh := [.dead, .v (.int .i64), .v (.int .i64), .box 3 0, .dead, .dead, .box 6 0, .dead, .v (.int .i64), .dead, .dead, .dead, .dead, .dead, .dead, .dead, .dead, .dead, .dead, .dead, .dead, .dead, .dead, .dead, .dead, .dead, .dead, .dead, .dead, .dead, .dead, .dead, .dead, .dead, .dead, .dead, .dead, .dead, .dead, .dead]
def f266o2_0 : List (Nat × OSh) := [(3, .box [.v (.sl 99 ts_s_Key)]), (6, .box [.v (.int .i64), .v (.int .i64), .v (.int .i64), .v (.int .i64), .v (.int .i64)])]
def f266e2_0 (t : Int × Int × Int × List E_s_Key × Int × Int × Int × Int × Int) : St := ⟨[.dead, .val (.int .i64) t.1, .val (.int .i64) t.2.1, .box 3 0, .dead, .dead, .box 6 0, .dead, .val (.int .i64) t.2.2.1, .dead, .dead, .dead, .dead, .dead, .dead, .dead, .dead, .dead, .dead, .dead, .dead, .dead, .dead, .dead, .dead, .dead, .dead, .dead, .dead, .dead, .dead, .dead, .dead, .dead, .dead, .dead, .dead, .dead, .dead, .dead], [(3, .box [.val (.sl 99 ts_s_Key) t.2.2.2.1]), (6, .box [.val (.int .i64) t.2.2.2.2.1, .val (.int .i64) t.2.2.2.2.2.1, .val (.int .i64) t.2.2.2.2.2.2.1, .val (.int .i64) t.2.2.2.2.2.2.2.1, .val (.int .i64) t.2.2.2.2.2.2.2.2])]⟩
def f266x2_0 (t : Bool × Int × Int × Int × Int × Int) : St := ⟨[.dead, .dead, .dead, .dead, .dead, .dead, .box 6 0, .val .bool t.1, .dead, .dead, .dead, .dead, .dead, .dead, .dead, .dead, .dead, .dead, .dead, .dead, .dead, .dead, .dead, .dead, .dead, .dead, .dead, .dead, .dead, .dead, .dead, .dead, .dead, .dead, .dead, .dead, .dead, .dead, .dead, .dead], [(6, .box [.val (.int .i64) t.2.1, .val (.int .i64) t.2.2.1, .val (.int .i64) t.2.2.2.1, .val (.int .i64) t.2.2.2.2.1, .val (.int .i64) t.2.2.2.2.2])]⟩
def f266x2_1 (t : Int × Int × Int × Int × Int) : St := ⟨[.dead, .dead, .dead, .dead, .dead, .dead, .box 6 0, .dead, .dead, .dead, .dead, .dead, .dead, .dead, .dead, .dead, .dead, .dead, .dead, .dead, .dead, .dead, .dead, .dead, .dead, .dead, .dead, .dead, .dead, .dead, .dead, .dead, .dead, .dead, .dead, .dead, .dead, .dead, .dead, .dead], [(6, .box [.val (.int .i64) t.1, .val (.int .i64) t.2.1, .val (.int .i64) t.2.2.1, .val (.int .i64) t.2.2.2.1, .val (.int .i64) t.2.2.2.2])]⟩
def f266u2_0 (s : St) : Option (Int × Int × Int × List E_s_Key × Int × Int × Int × Int × Int) := (unS f266h2_0 f266o2_0 s).map fun v => (v.1.2.1, v.1.2.2.1, v.1.2.2.2.2.2.2.2.2.1, v.2.1.1, v.2.2.1.1, v.2.2.1.2.1, v.2.2.1.2.2.1, v.2.2.1.2.2.2.1, v.2.2.1.2.2.2.2.1)
theorem f266un2_0 : ∀ (s : St) (t : Int × Int × Int × List E_s_Key × Int × Int × Int × Int × Int), f266u2_0 s = some t → f266e2_0 t = s := fun s v h => by
  obtain ⟨u, hu, rfl⟩ := Option.map_eq_some_iff.1 h
  exact (show f266e2_0 (u.1.2.1, u.1.2.2.1, u.1.2.2.2.2.2.2.2.2.1, u.2.1.1, u.2.2.1.1, u.2.2.1.2.1, u.2.2.1.2.2.1, u.2.2.1.2.2.2.1, u.2.2.1.2.2.2.2.1) = mkS f266h2_0 f266o2_0 u by kernel_rfl).trans (mkS_un f266h2_0 f266o2_0 s u hu)
def f266u2 : St → Option (Int × Int × Int × List E_s_Key × Int × Int × Int × Int × Int) := f266u2_0
def f266e2 : (Int × Int × Int × List E_s_Key × Int × Int × Int × Int × Int) → St := f266e2_0
theorem f266un2 : ∀ (s : St) (t : Int × Int × Int × List E_s_Key × Int × Int × Int × Int × Int), f266u2 s = some t → f266e2 t = s := f266un2_0
noncomputable def f266P : Lp := fun i s {_R} κ => bif Nat.beq i 2 then (f266u2 s).bind fun t => L_spec_NodeAt_2 (fun t => κ (none) (f266x2_0 t)) (fun t => κ (some 0) (f266x2_1 t)) t else none
noncomputable def f266c2 : Code := (loopsOf f266B).getD 0 .skip
theorem f266A2 : C.live 266 (firstRegion f266c2) = some ([1, 2, 3, 6, 8, 32, 33, 34], [6, 7]) := by kernel_rfl
theorem f266B2 {R : Type} (κ : Option Nat → St → Option R) (s : St) : f266P (firstRegion f266c2) s κ = (f266u2 s).bind fun t => iter (S_spec_NodeAt_2 (fun t => κ (none) (f266x2_0 t)) (fun t => κ (some 0) (f266x2_1 t))) FUEL t := by kernel_rfl
theorem f266C2 {R : Type} (κ : Option Nat → St → Option R) (again : St → Option R) (t : T_spec_NodeAt_2) : stepL C f266K f266P 266 f266c2 [1, 2, 3, 6, 8, 32, 33, 34] [6, 7] κ again (f266e2 t) = S_spec_NodeAt_2 (fun t => κ (none) (f266x2_0 t)) (fun t => κ (some 0) (f266x2_1 t)) (fun t => again (f266e2 t)) t := by kernel_rfl
theorem f266ok2 : LoopOk C f266K f266P 266 f266c2 := loop_ok f266A2 f266e2 f266u2 f266un2 (fun {_R} κ => S_spec_NodeAt_2 (fun t => κ (none) (f266x2_0 t)) (fun t => κ (some 0) (f266x2_1 t))) (fun {_R} κ s => f266B2 κ s) (fun {_R} κ again t => f266C2 κ again t)
theorem k266 : Contract C Tryz.prog f266K := contract_tab _ (fun p hp => by
    simp only [List.mem_cons, List.mem_nil_iff, or_false] at hp
    rcases hp with rfl
    · exact ok247)
theorem ev266 (x : List E_s_Key × Int × Int) : evalB C f266K f266P 266 Tryz.f266 f266B ⟨[.v true [(.sl 99 ts_s_Key)] [false], .v false [(.int .i64)] [false], .v false [(.int .i64)] [false]], [⟨true, [(.int .i64), (.int .i64), (.int .i64), (.int .i64), (.int .i64)], [false, false, false, false, false]⟩, ⟨false, [.bool], [false]⟩], false⟩ [(.sl 99 ts_s_Key), (.int .i64), (.int .i64)] [(.int .i64), (.int .i64), (.int .i64), (.int .i64), (.int .i64), .bool] x = F_spec_NodeAt x := by kernel_rfl
theorem ok266 : ContractAt C Tryz.prog 266 F_spec_NodeAt := fn_sound (lp := f266P) tok mixed k266 (by kernel_rfl) (fn := Tryz.f266) (c := f266B) (sg := ⟨[.v true [(.sl 99 ts_s_Key)] [false], .v false [(.int .i64)] [false], .v false [(.int .i64)] [false]], [⟨true, [(.int .i64), (.int .i64), (.int .i64), (.int .i64), (.int .i64)], [false, false, false, false, false]⟩, ⟨false, [.bool], [false]⟩], false⟩) Tryz.func266 (by decide) (by kernel_rfl) (by kernel_rfl) (by kernel_rfl) (fun c' hc' => by
    rw [show loopsOf f266B = [f266c2] by kernel_rfl] at hc'
    simp only [List.mem_cons, List.mem_nil_iff, or_false] at hc'
    rcases hc' with rfl
    · exact f266ok2) (by decide) (by decide) (fun x y h => (ev266 x).trans h)
noncomputable def F_spec_TreeAt (x : List E_i64 × List E_Node × Int × Int) : Option (Int × Int × Int × Int × Int × Bool) :=
  Option.bind (F_spec_WhereIn (x.1, x.2.1, x.2.2.1, x.2.2.2)) fun r1 => Option.bind (F_spec_l1In (r1, (0 : Int), (Go.IntKind.wrap .i64 (((List.length x.2.1 : Nat) : Int) - (1 : Int))))) fun r2 => bif (!r2) then some ((0 : Int), (0 : Int), (0 : Int), (0 : Int), (0 : Int), false) else if (0 : Int) ≤ r1 then if r1 < ((List.length x.2.1 : Nat) : Int) then Option.bind (F_spec_NodeAt ((rd_Node x.2.1 r1), x.2.2.1, x.2.2.2)) fun r3 => some (r3.1, r3.2.1, r3.2.2.1, r3.2.2.2.1, r3.2.2.2.2.1, r3.2.2.2.2.2) else none else none
noncomputable def f238B : Code := match Tryz.f238.body with
  | some c => c
  | none => .skip
noncomputable def f238K : C.Sem := tab [⟨39, F_spec_l1In⟩, ⟨210, F_spec_WhereIn⟩, ⟨266, F_spec_NodeAt⟩]
noncomputable def f238P : Lp := fun i s {_R} κ => none
theorem k238 : Contract C Tryz.prog f238K := contract_tab _ (fun p hp => by
    simp only [List.mem_cons, List.mem_nil_iff, or_false] at hp
    rcases hp with rfl | rfl | rfl
    · exact ok39
    · exact ok210
    · exact ok266)
theorem ev238 (x : List E_i64 × List E_Node × Int × Int) : evalB C f238K f238P 238 Tryz.f238 f238B ⟨[.v true [(.sl 3 ts_i64), (.sl 97 ts_Node)] [false, false], .v false [(.int .i64)] [false], .v false [(.int .i64)] [false]], [⟨true, [(.int .i64), (.int .i64), (.int .i64), (.int .i64), (.int .i64)], [false, false, false, false, false]⟩, ⟨false, [.bool], [false]⟩], false⟩ [(.sl 3 ts_i64), (.sl 97 ts_Node), (.int .i64), (.int .i64)] [(.int .i64), (.int .i64), (.int .i64), (.int .i64), (.int .i64), .bool] x = F_spec_TreeAt x := by kernel_rfl
theorem ok238 : ContractAt C Tryz.prog 238 F_spec_TreeAt := fn_sound (lp := f238P) tok mixed k238 (by kernel_rfl) (fn := Tryz.f238) (c := f238B) (sg := ⟨[.v true [(.sl 3 ts_i64), (.sl 97 ts_Node)] [false, false], .v false [(.int .i64)] [false], .v false [(.int .i64)] [false]], [⟨true, [(.int .i64), (.int .i64), (.int .i64), (.int .i64), (.int .i64)], [false, false, false, false, false]⟩, ⟨false, [.bool], [false]⟩], false⟩) Tryz.func238 (by decide) (by kernel_rfl) (by kernel_rfl) (by kernel_rfl) (fun c' hc' => by
    rw [show loopsOf f238B = [] by kernel_rfl] at hc'
    cases hc') (by decide) (by decide) (fun x y h => (ev238 x).trans h)
noncomputable def F_spec_l13Move (x : List E_i64 × List E_Node × List E_Age × List E_Cell × List E_Vol × Int × Int × Int × Int × Int × Int) : Option (Bool) :=
  Option.bind (F_spec_l13Kid (x.1, x.2.1, x.2.2.1, x.2.2.2.1, x.2.2.2.2.1, x.2.2.2.2.2.1, x.2.2.2.2.2.2.2.1)) fun r1 => bif (r1 == (0 : Int)) then some false else Option.bind (F_spec_TreeAt (x.1, x.2.1, x.2.2.2.2.2.2.1, r1)) fun r2 => some (!r2.2.2.2.2.2)
noncomputable def f201B : Code := match Tryz.f201.body with
  | some c => c
  | none => .skip
noncomputable def f201K : C.Sem := tab [⟨170, F_spec_l13Kid⟩, ⟨238, F_spec_TreeAt⟩]
noncomputable def f201P : Lp := fun i s {_R} κ => none
theorem k201 : Contract C Tryz.prog f201K := contract_tab _ (fun p hp => by
    simp only [List.mem_cons, List.mem_nil_iff, or_false] at hp
    rcases hp with rfl | rfl
    · exact ok170
    · exact ok238)
theorem ev201 (x : List E_i64 × List E_Node × List E_Age × List E_Cell × List E_Vol × Int × Int × Int × Int × Int × Int) : evalB C f201K f201P 201 Tryz.f201 f201B ⟨[.v true [(.sl 3 ts_i64), (.sl 97 ts_Node), (.sl 88 ts_Age), (.sl 94 ts_Cell), (.sl 90 ts_Vol), (.int .i64)] [false, false, false, false, false, false], .v true [(.int .i64), (.int .i64), (.int .i64), (.int .i64), (.int .i64)] [false, false, false, false, false]], [⟨false, [.bool], [false]⟩], false⟩ [(.sl 3 ts_i64), (.sl 97 ts_Node), (.sl 88 ts_Age), (.sl 94 ts_Cell), (.sl 90 ts_Vol), (.int .i64), (.int .i64), (.int .i64), (.int .i64), (.int .i64), (.int .i64)] [.bool] x = F_spec_l13Move x := by kernel_rfl
theorem ok201 : ContractAt C Tryz.prog 201 F_spec_l13Move := fn_sound (lp := f201P) tok mixed k201 (by kernel_rfl) (fn := Tryz.f201) (c := f201B) (sg := ⟨[.v true [(.sl 3 ts_i64), (.sl 97 ts_Node), (.sl 88 ts_Age), (.sl 94 ts_Cell), (.sl 90 ts_Vol), (.int .i64)] [false, false, false, false, false, false], .v true [(.int .i64), (.int .i64), (.int .i64), (.int .i64), (.int .i64)] [false, false, false, false, false]], [⟨false, [.bool], [false]⟩], false⟩) Tryz.func201 (by decide) (by kernel_rfl) (by kernel_rfl) (by kernel_rfl) (fun c' hc' => by
    rw [show loopsOf f201B = [] by kernel_rfl] at hc'
    cases hc') (by decide) (by decide) (fun x y h => (ev201 x).trans h)
noncomputable def F_spec_l13Key (x : List E_i64 × List E_Node × List E_Age × List E_Cell × List E_Vol × Int × Int × Int × Int × Int × Int × Int) : Option (Bool) :=
  bif (x.2.2.2.2.2.2.1 == (1 : Int)) then Option.bind (F_spec_SeenByAny (x.1, x.2.1, x.2.2.1, x.2.2.2.1, x.2.2.2.2.1, x.2.2.2.2.2.1, x.2.2.2.2.2.2.2.1, x.2.2.2.2.2.2.2.2.1, x.2.2.2.2.2.2.2.2.2.1, x.2.2.2.2.2.2.2.2.2.2.1, x.2.2.2.2.2.2.2.2.2.2.2)) fun r1 => some (!r1) else bif (x.2.2.2.2.2.2.1 == (2 : Int)) then Option.bind (F_spec_SeenAbove (x.1, x.2.1, x.2.2.1, x.2.2.2.2.2.2.2.1, x.2.2.2.2.2.2.2.2.1)) fun r2 => Option.bind (bif (x.2.2.2.2.2.2.2.2.2.1 == (2 : Int)) then some (!r2.2.2.2.2.2) else some false) fun u3 => some u3 else Option.bind (F_spec_l13Move (x.1, x.2.1, x.2.2.1, x.2.2.2.1, x.2.2.2.2.1, x.2.2.2.2.2.1, x.2.2.2.2.2.2.2.1, x.2.2.2.2.2.2.2.2.1, x.2.2.2.2.2.2.2.2.2.1, x.2.2.2.2.2.2.2.2.2.2.1, x.2.2.2.2.2.2.2.2.2.2.2)) fun r4 => some r4
noncomputable def f157B : Code := match Tryz.f157.body with
  | some c => c
  | none => .skip
noncomputable def f157K : C.Sem := tab [⟨159, F_spec_SeenByAny⟩, ⟨200, F_spec_SeenAbove⟩, ⟨201, F_spec_l13Move⟩]
noncomputable def f157P : Lp := fun i s {_R} κ => none
theorem k157 : Contract C Tryz.prog f157K := contract_tab _ (fun p hp => by
    simp only [List.mem_cons, List.mem_nil_iff, or_false] at hp
    rcases hp with rfl | rfl | rfl
    · exact ok159
    · exact ok200
    · exact ok201)
theorem ev157 (x : List E_i64 × List E_Node × List E_Age × List E_Cell × List E_Vol × Int × Int × Int × Int × Int × Int × Int) : evalB C f157K f157P 157 Tryz.f157 f157B ⟨[.v true [(.sl 3 ts_i64), (.sl 97 ts_Node), (.sl 88 ts_Age), (.sl 94 ts_Cell), (.sl 90 ts_Vol), (.int .i64)] [false, false, false, false, false, false], .v false [(.int .i64)] [false], .v true [(.int .i64), (.int .i64), (.int .i64), (.int .i64), (.int .i64)] [false, false, false, false, false]], [⟨false, [.bool], [false]⟩], false⟩ [(.sl 3 ts_i64), (.sl 97 ts_Node), (.sl 88 ts_Age), (.sl 94 ts_Cell), (.sl 90 ts_Vol), (.int .i64), (.int .i64), (.int .i64), (.int .i64), (.int .i64), (.int .i64), (.int .i64)] [.bool] x = F_spec_l13Key x := by kernel_rfl
theorem ok157 : ContractAt C Tryz.prog 157 F_spec_l13Key := fn_sound (lp := f157P) tok mixed k157 (by kernel_rfl) (fn := Tryz.f157) (c := f157B) (sg := ⟨[.v true [(.sl 3 ts_i64), (.sl 97 ts_Node), (.sl 88 ts_Age), (.sl 94 ts_Cell), (.sl 90 ts_Vol), (.int .i64)] [false, false, false, false, false, false], .v false [(.int .i64)] [false], .v true [(.int .i64), (.int .i64), (.int .i64), (.int .i64), (.int .i64)] [false, false, false, false, false]], [⟨false, [.bool], [false]⟩], false⟩) Tryz.func157 (by decide) (by kernel_rfl) (by kernel_rfl) (by kernel_rfl) (fun c' hc' => by
    rw [show loopsOf f157B = [] by kernel_rfl] at hc'
    cases hc') (by decide) (by decide) (fun x y h => (ev157 x).trans h)
abbrev T_spec_l13Age_3 : Type := Int × Int × List E_i64 × List E_Node × List E_Age × List E_Cell × List E_Vol × Int × List E_Key
noncomputable def S_spec_l13Age_3 {R : Type} (k0 : (Int × Bool × List E_i64 × List E_Node × List E_Age × List E_Cell × List E_Vol × Int) → Option R) (k1 : (Int × List E_i64 × List E_Node × List E_Age × List E_Cell × List E_Vol × Int) → Option R) (again : T_spec_l13Age_3 → Option R) (t3 : T_spec_l13Age_3) : Option R :=
  bif (decide (t3.2.1 < ((List.length t3.2.2.2.2.2.2.2.2 : Nat) : Int))) then if (0 : Int) ≤ t3.2.1 then if t3.2.1 < ((List.length t3.2.2.2.2.2.2.2.2 : Nat) : Int) then bif ((rd_Key t3.2.2.2.2.2.2.2.2 t3.2.1).2.1 == t3.1) then k0 (t3.1, false, t3.2.2.1, t3.2.2.2.1, t3.2.2.2.2.1, t3.2.2.2.2.2.1, t3.2.2.2.2.2.2.1, t3.2.2.2.2.2.2.2.1) else again (t3.1, (Go.IntKind.wrap .i64 (t3.2.1 + (1 : Int))), t3.2.2.1, t3.2.2.2.1, t3.2.2.2.2.1, t3.2.2.2.2.2.1, t3.2.2.2.2.2.2.1, t3.2.2.2.2.2.2.2.1, t3.2.2.2.2.2.2.2.2) else none else none else k1 (t3.1, t3.2.2.1, t3.2.2.2.1, t3.2.2.2.2.1, t3.2.2.2.2.2.1, t3.2.2.2.2.2.2.1, t3.2.2.2.2.2.2.2.1)
noncomputable def L_spec_l13Age_3 {R : Type} (k0 : (Int × Bool × List E_i64 × List E_Node × List E_Age × List E_Cell × List E_Vol × Int) → Option R) (k1 : (Int × List E_i64 × List E_Node × List E_Age × List E_Cell × List E_Vol × Int) → Option R) (t : T_spec_l13Age_3) : Option R := iter (S_spec_l13Age_3 k0 k1) FUEL t
noncomputable def F_spec_l13Age (x : List E_i64 × List E_Node × List E_Age × List E_Cell × List E_Vol × Int × Int) : Option (Bool) :=
  Option.bind (F_spec_TreeKeys (x.1, x.2.1)) fun r1 => L_spec_l13Age_3 (fun x2 => some x2.2.1) (fun x3 => Option.bind (F_spec_Idle (x3.2.1, x3.2.2.1, x3.2.2.2.1, x3.2.2.2.2.1, x3.2.2.2.2.2.1, x3.2.2.2.2.2.2, x3.1)) fun r4 => Option.bind (bif r4 then Option.bind (F_spec_KidsOf (x3.2.2.2.1, x3.1)) fun r6 => some (decide (((List.length r6 : Nat) : Int) ≤ (1 : Int))) else some false) fun u5 => some u5) (x.2.2.2.2.2.2, (0 : Int), x.1, x.2.1, x.2.2.1, x.2.2.2.1, x.2.2.2.2.1, x.2.2.2.2.2.1, r1)
noncomputable def f158B : Code := match Tryz.f158.body with
  | some c => c
  | none => .skip
noncomputable def f158K : C.Sem := tab [⟨156, F_spec_TreeKeys⟩, ⟨179, F_spec_KidsOf⟩, ⟨202, F_spec_Idle⟩]
def f158h3_0 : List Sh := [.dead, .v (.int .i64), .box 2 0, .dead, .dead, .own 10000000, .v (.int .i64), .dead, .dead, .dead, .dead, .dead, .dead, .dead, .dead, .dead, .dead, .dead, .dead, .dead, .dead, .dead, .dead, .dead, .dead, .dead, .dead, .dead, .dead, .dead, .dead, .dead, .dead, .dead]
def f158o3_0 : List (Nat × OSh) := [(2, .box [.v (.sl 3 ts_i64), .v (.sl 97 ts_Node), .v (.sl 88 ts_Age), .v (.sl 94 ts_Cell), .v (.sl 90 ts_Vol), .v (.int .i64)]), (10000000, .root true 105 ts_Key)]
def f158e3_0 (t : Int × Int × List E_i64 × List E_Node × List E_Age × List E_Cell × List E_Vol × Int × List E_Key) : St := ⟨[.dead, .val (.int .i64) t.1, .box 2 0, .dead, .dead, .own 10000000, .val (.int .i64) t.2.1, .dead, .dead, .dead, .dead, .dead, .dead, .dead, .dead, .dead, .dead, .dead, .dead, .dead, .dead, .dead, .dead, .dead, .dead, .dead, .dead, .dead, .dead, .dead, .dead, .dead, .dead, .dead], [(2, .box [.val (.sl 3 ts_i64) t.2.2.1, .val (.sl 97 ts_Node) t.2.2.2.1, .val (.sl 88 ts_Age) t.2.2.2.2.1, .val (.sl 94 ts_Cell) t.2.2.2.2.2.1, .val (.sl 90 ts_Vol) t.2.2.2.2.2.2.1, .val (.int .i64) t.2.2.2.2.2.2.2.1]), (10000000, .root true 105 ts_Key t.2.2.2.2.2.2.2.2)]⟩
def f158x3_0 (t : Int × Bool × List E_i64 × List E_Node × List E_Age × List E_Cell × List E_Vol × Int) : St := ⟨[.dead, .val (.int .i64) t.1, .box 2 0, .dead, .val .bool t.2.1, .dead, .dead, .dead, .dead, .dead, .dead, .dead, .dead, .dead, .dead, .dead, .dead, .dead, .dead, .dead, .dead, .dead, .dead, .dead, .dead, .dead, .dead, .dead, .dead, .dead, .dead, .dead, .dead, .dead], [(2, .box [.val (.sl 3 ts_i64) t.2.2.1, .val (.sl 97 ts_Node) t.2.2.2.1, .val (.sl 88 ts_Age) t.2.2.2.2.1, .val (.sl 94 ts_Cell) t.2.2.2.2.2.1, .val (.sl 90 ts_Vol) t.2.2.2.2.2.2.1, .val (.int .i64) t.2.2.2.2.2.2.2])]⟩
def f158x3_1 (t : Int × List E_i64 × List E_Node × List E_Age × List E_Cell × List E_Vol × Int) : St := ⟨[.dead, .val (.int .i64) t.1, .box 2 0, .dead, .dead, .dead, .dead, .dead, .dead, .dead, .dead, .dead, .dead, .dead, .dead, .dead, .dead, .dead, .dead, .dead, .dead, .dead, .dead, .dead, .dead, .dead, .dead, .dead, .dead, .dead, .dead, .dead, .dead, .dead], [(2, .box [.val (.sl 3 ts_i64) t.2.1, .val (.sl 97 ts_Node) t.2.2.1, .val (.sl 88 ts_Age) t.2.2.2.1, .val (.sl 94 ts_Cell) t.2.2.2.2.1, .val (.sl 90 ts_Vol) t.2.2.2.2.2.1, .val (.int .i64) t.2.2.2.2.2.2])]⟩
def f158u3_0 (s : St) : Option (Int × Int × List E_i64 × List E_Node × List E_Age × List E_Cell × List E_Vol × Int × List E_Key) := (unS f158h3_0 f158o3_0 s).map fun v => (v.1.2.1, v.1.2.2.2.2.2.2.1, v.2.1.1, v.2.1.2.1, v.2.1.2.2.1, v.2.1.2.2.2.1, v.2.1.2.2.2.2.1, v.2.1.2.2.2.2.2.1, v.2.2.1)
theorem f158un3_0 : ∀ (s : St) (t : Int × Int × List E_i64 × List E_Node × List E_Age × List E_Cell × List E_Vol × Int × List E_Key), f158u3_0 s = some t → f158e3_0 t = s := fun s v h => by
  obtain ⟨u, hu, rfl⟩ := Option.map_eq_some_iff.1 h
  exact (show f158e3_0 (u.1.2.1, u.1.2.2.2.2.2.2.1, u.2.1.1, u.2.1.2.1, u.2.1.2.2.1, u.2.1.2.2.2.1, u.2.1.2.2.2.2.1, u.2.1.2.2.2.2.2.1, u.2.2.1) = mkS f158h3_0 f158o3_0 u by kernel_rfl).trans (mkS_un f158h3_0 f158o3_0 s u hu)
def f158u3 : St → Option (Int × Int × List E_i64 × List E_Node × List E_Age × List E_Cell × List E_Vol × Int × List E_Key) := f158u3_0
def f158e3 : (Int × Int × List E_i64 × List E_Node × List E_Age × List E_Cell × List E_Vol × Int × List E_Key) → St := f158e3_0
theorem f158un3 : ∀ (s : St) (t : Int × Int × List E_i64 × List E_Node × List E_Age × List E_Cell × List E_Vol × Int × List E_Key), f158u3 s = some t → f158e3 t = s := f158un3_0
noncomputable def f158P : Lp := fun i s {_R} κ => bif Nat.beq i 3 then (f158u3 s).bind fun t => L_spec_l13Age_3 (fun t => κ (none) (f158x3_0 t)) (fun t => κ (some 0) (f158x3_1 t)) t else none
noncomputable def f158c3 : Code := (loopsOf f158B).getD 0 .skip
theorem f158A3 : C.live 158 (firstRegion f158c3) = some ([1, 2, 5, 6, 27, 28, 29, 30, 31, 32], [1, 2, 4, 27, 28, 29, 30, 31, 32]) := by kernel_rfl
theorem f158B3 {R : Type} (κ : Option Nat → St → Option R) (s : St) : f158P (firstRegion f158c3) s κ = (f158u3 s).bind fun t => iter (S_spec_l13Age_3 (fun t => κ (none) (f158x3_0 t)) (fun t => κ (some 0) (f158x3_1 t))) FUEL t := by kernel_rfl
theorem f158C3 {R : Type} (κ : Option Nat → St → Option R) (again : St → Option R) (t : T_spec_l13Age_3) : stepL C f158K f158P 158 f158c3 [1, 2, 5, 6, 27, 28, 29, 30, 31, 32] [1, 2, 4, 27, 28, 29, 30, 31, 32] κ again (f158e3 t) = S_spec_l13Age_3 (fun t => κ (none) (f158x3_0 t)) (fun t => κ (some 0) (f158x3_1 t)) (fun t => again (f158e3 t)) t := by kernel_rfl
theorem f158ok3 : LoopOk C f158K f158P 158 f158c3 := loop_ok f158A3 f158e3 f158u3 f158un3 (fun {_R} κ => S_spec_l13Age_3 (fun t => κ (none) (f158x3_0 t)) (fun t => κ (some 0) (f158x3_1 t))) (fun {_R} κ s => f158B3 κ s) (fun {_R} κ again t => f158C3 κ again t)
theorem k158 : Contract C Tryz.prog f158K := contract_tab _ (fun p hp => by
    simp only [List.mem_cons, List.mem_nil_iff, or_false] at hp
    rcases hp with rfl | rfl | rfl
    · exact ok156
    · exact ok179
    · exact ok202)
theorem ev158 (x : List E_i64 × List E_Node × List E_Age × List E_Cell × List E_Vol × Int × Int) : evalB C f158K f158P 158 Tryz.f158 f158B ⟨[.v true [(.sl 3 ts_i64), (.sl 97 ts_Node), (.sl 88 ts_Age), (.sl 94 ts_Cell), (.sl 90 ts_Vol), (.int .i64)] [false, false, false, false, false, false], .v false [(.int .i64)] [false]], [⟨false, [.bool], [false]⟩], false⟩ [(.sl 3 ts_i64), (.sl 97 ts_Node), (.sl 88 ts_Age), (.sl 94 ts_Cell), (.sl 90 ts_Vol), (.int .i64), (.int .i64)] [.bool] x = F_spec_l13Age x := by kernel_rfl
theorem ok158 : ContractAt C Tryz.prog 158 F_spec_l13Age := fn_sound (lp := f158P) tok mixed k158 (by kernel_rfl) (fn := Tryz.f158) (c := f158B) (sg := ⟨[.v true [(.sl 3 ts_i64), (.sl 97 ts_Node), (.sl 88 ts_Age), (.sl 94 ts_Cell), (.sl 90 ts_Vol), (.int .i64)] [false, false, false, false, false, false], .v false [(.int .i64)] [false]], [⟨false, [.bool], [false]⟩], false⟩) Tryz.func158 (by decide) (by kernel_rfl) (by kernel_rfl) (by kernel_rfl) (fun c' hc' => by
    rw [show loopsOf f158B = [f158c3] by kernel_rfl] at hc'
    simp only [List.mem_cons, List.mem_nil_iff, or_false] at hc'
    rcases hc' with rfl
    · exact f158ok3) (by decide) (by decide) (fun x y h => (ev158 x).trans h)
abbrev T_spec_NextStep_8 : Type := Int × Int × List E_i64 × List E_Node × List E_Age × List E_Cell × List E_Vol × Int × List E_Key
noncomputable def S_spec_NextStep_8 {R : Type} (k0 : (Int × Int × Int × List E_i64 × List E_Node × List E_Age × List E_Cell × List E_Vol × Int × List E_Key) → Option R) (k1 : (Int × List E_i64 × List E_Node × List E_Age × List E_Cell × List E_Vol × Int × List E_Key) → Option R) (again : T_spec_NextStep_8 → Option R) (t8 : T_spec_NextStep_8) : Option R :=
  bif (decide (t8.2.1 < ((List.length t8.2.2.2.2.2.2.2.2 : Nat) : Int))) then if (0 : Int) ≤ t8.2.1 then if t8.2.1 < ((List.length t8.2.2.2.2.2.2.2.2 : Nat) : Int) then Option.bind (F_spec_l13Key (t8.2.2.1, t8.2.2.2.1, t8.2.2.2.2.1, t8.2.2.2.2.2.1, t8.2.2.2.2.2.2.1, t8.2.2.2.2.2.2.2.1, t8.1, (rd_Key t8.2.2.2.2.2.2.2.2 t8.2.1).1, (rd_Key t8.2.2.2.2.2.2.2.2 t8.2.1).2.1, (rd_Key t8.2.2.2.2.2.2.2.2 t8.2.1).2.2.1, (rd_Key t8.2.2.2.2.2.2.2.2 t8.2.1).2.2.2.1, (rd_Key t8.2.2.2.2.2.2.2.2 t8.2.1).2.2.2.2)) fun r3 => bif r3 then k0 (t8.1, t8.2.1, t8.1, t8.2.2.1, t8.2.2.2.1, t8.2.2.2.2.1, t8.2.2.2.2.2.1, t8.2.2.2.2.2.2.1, t8.2.2.2.2.2.2.2.1, t8.2.2.2.2.2.2.2.2) else again (t8.1, (Go.IntKind.wrap .i64 (t8.2.1 + (1 : Int))), t8.2.2.1, t8.2.2.2.1, t8.2.2.2.2.1, t8.2.2.2.2.2.1, t8.2.2.2.2.2.2.1, t8.2.2.2.2.2.2.2.1, t8.2.2.2.2.2.2.2.2) else none else none else k1 (t8.1, t8.2.2.1, t8.2.2.2.1, t8.2.2.2.2.1, t8.2.2.2.2.2.1, t8.2.2.2.2.2.2.1, t8.2.2.2.2.2.2.2.1, t8.2.2.2.2.2.2.2.2)
noncomputable def L_spec_NextStep_8 {R : Type} (k0 : (Int × Int × Int × List E_i64 × List E_Node × List E_Age × List E_Cell × List E_Vol × Int × List E_Key) → Option R) (k1 : (Int × List E_i64 × List E_Node × List E_Age × List E_Cell × List E_Vol × Int × List E_Key) → Option R) (t : T_spec_NextStep_8) : Option R := iter (S_spec_NextStep_8 k0 k1) FUEL t
abbrev T_spec_NextStep_5 : Type := Int × List E_i64 × List E_Node × List E_Age × List E_Cell × List E_Vol × Int × List E_Key
noncomputable def S_spec_NextStep_5 {R : Type} (k0 : (Int × Int × List E_i64 × List E_Node × List E_Age × List E_Cell × List E_Vol × Int) → Option R) (k1 : (List E_i64 × List E_Node × List E_Age × List E_Cell × List E_Vol × Int) → Option R) (again : T_spec_NextStep_5 → Option R) (t5 : T_spec_NextStep_5) : Option R :=
  bif (decide (t5.1 ≤ (3 : Int))) then L_spec_NextStep_8 (fun x4 => k0 (x4.1, x4.2.1, x4.2.2.2.1, x4.2.2.2.2.1, x4.2.2.2.2.2.1, x4.2.2.2.2.2.2.1, x4.2.2.2.2.2.2.2.1, x4.2.2.2.2.2.2.2.2.1)) (fun x5 => again ((Go.IntKind.wrap .i64 (x5.1 + (1 : Int))), x5.2.1, x5.2.2.1, x5.2.2.2.1, x5.2.2.2.2.1, x5.2.2.2.2.2.1, x5.2.2.2.2.2.2.1, x5.2.2.2.2.2.2.2)) (t5.1, (0 : Int), t5.2.1, t5.2.2.1, t5.2.2.2.1, t5.2.2.2.2.1, t5.2.2.2.2.2.1, t5.2.2.2.2.2.2.1, t5.2.2.2.2.2.2.2) else k1 (t5.2.1, t5.2.2.1, t5.2.2.2.1, t5.2.2.2.2.1, t5.2.2.2.2.2.1, t5.2.2.2.2.2.2.1)
noncomputable def L_spec_NextStep_5 {R : Type} (k0 : (Int × Int × List E_i64 × List E_Node × List E_Age × List E_Cell × List E_Vol × Int) → Option R) (k1 : (List E_i64 × List E_Node × List E_Age × List E_Cell × List E_Vol × Int) → Option R) (t : T_spec_NextStep_5) : Option R := iter (S_spec_NextStep_5 k0 k1) FUEL t
abbrev T_spec_NextStep_13 : Type := Int × List E_i64 × List E_Node × List E_Age × List E_Cell × List E_Vol × Int
noncomputable def S_spec_NextStep_13 {R : Type} (k0 : (Int × Int) → Option R) (k1 : Unit → Option R) (again : T_spec_NextStep_13 → Option R) (t13 : T_spec_NextStep_13) : Option R :=
  bif (decide (t13.1 < ((List.length t13.2.2.2.1 : Nat) : Int))) then if (0 : Int) ≤ t13.1 then if t13.1 < ((List.length t13.2.2.2.1 : Nat) : Int) then Option.bind (F_spec_l13Age (t13.2.1, t13.2.2.1, t13.2.2.2.1, t13.2.2.2.2.1, t13.2.2.2.2.2.1, t13.2.2.2.2.2.2, (rd_Age t13.2.2.2.1 t13.1).1)) fun r8 => bif r8 then k0 ((4 : Int), t13.1) else again ((Go.IntKind.wrap .i64 (t13.1 + (1 : Int))), t13.2.1, t13.2.2.1, t13.2.2.2.1, t13.2.2.2.2.1, t13.2.2.2.2.2.1, t13.2.2.2.2.2.2) else none else none else k1 ()
noncomputable def L_spec_NextStep_13 {R : Type} (k0 : (Int × Int) → Option R) (k1 : Unit → Option R) (t : T_spec_NextStep_13) : Option R := iter (S_spec_NextStep_13 k0 k1) FUEL t
noncomputable def F_spec_NextStep (x : List E_i64 × List E_Node × List E_Age × List E_Cell × List E_Vol × Int) : Option (Int × Int) :=
  Option.bind (F_spec_PoolOk (x.1, x.2.1, x.2.2.1, x.2.2.2.1, x.2.2.2.2.1, x.2.2.2.2.2)) fun r1 => bif (!r1) then some ((0 : Int), (0 : Int)) else Option.bind (F_spec_TreeKeys (x.1, x.2.1)) fun r2 => L_spec_NextStep_5 (fun x6 => some (x6.1, x6.2.1)) (fun x7 => L_spec_NextStep_13 (fun x9 => some (x9.1, x9.2)) (fun x10 => some ((0 : Int), (0 : Int))) ((0 : Int), x7.1, x7.2.1, x7.2.2.1, x7.2.2.2.1, x7.2.2.2.2.1, x7.2.2.2.2.2)) ((1 : Int), x.1, x.2.1, x.2.2.1, x.2.2.2.1, x.2.2.2.2.1, x.2.2.2.2.2, r2)
noncomputable def f93B : Code := match Tryz.f93.body with
  | some c => c
  | none => .skip
noncomputable def f93K : C.Sem := tab [⟨45, F_spec_PoolOk⟩, ⟨156, F_spec_TreeKeys⟩, ⟨157, F_spec_l13Key⟩, ⟨158, F_spec_l13Age⟩]
def f93h8_0 : List Sh := [.dead, .box 1 0, .dead, .dead, .own 10000000, .v (.int .i64), .v (.int .i64), .dead, .dead, .dead, .dead, .dead, .dead, .dead, .dead, .dead, .dead, .dead, .dead, .dead, .dead, .dead, .dead, .dead, .dead, .dead, .dead, .dead, .dead, .dead, .dead, .dead, .dead, .dead, .dead, .dead, .dead, .dead, .dead, .dead, .dead, .dead, .dead, .dead, .dead, .dead, .dead, .dead, .dead]
def f93o8_0 : List (Nat × OSh) := [(1, .box [.v (.sl 3 ts_i64), .v (.sl 97 ts_Node), .v (.sl 88 ts_Age), .v (.sl 94 ts_Cell), .v (.sl 90 ts_Vol), .v (.int .i64)]), (10000000, .root true 105 ts_Key)]
def f93e8_0 (t : Int × Int × List E_i64 × List E_Node × List E_Age × List E_Cell × List E_Vol × Int × List E_Key) : St := ⟨[.dead, .box 1 0, .dead, .dead, .own 10000000, .val (.int .i64) t.1, .val (.int .i64) t.2.1, .dead, .dead, .dead, .dead, .dead, .dead, .dead, .dead, .dead, .dead, .dead, .dead, .dead, .dead, .dead, .dead, .dead, .dead, .dead, .dead, .dead, .dead, .dead, .dead, .dead, .dead, .dead, .dead, .dead, .dead, .dead, .dead, .dead, .dead, .dead, .dead, .dead, .dead, .dead, .dead, .dead, .dead], [(1, .box [.val (.sl 3 ts_i64) t.2.2.1, .val (.sl 97 ts_Node) t.2.2.2.1, .val (.sl 88 ts_Age) t.2.2.2.2.1, .val (.sl 94 ts_Cell) t.2.2.2.2.2.1, .val (.sl 90 ts_Vol) t.2.2.2.2.2.2.1, .val (.int .i64) t.2.2.2.2.2.2.2.1]), (10000000, .root true 105 ts_Key t.2.2.2.2.2.2.2.2)]⟩
def f93x8_0 (t : Int × Int × Int × List E_i64 × List E_Node × List E_Age × List E_Cell × List E_Vol × Int × List E_Key) : St := ⟨[.dead, .box 1 0, .val (.int .i64) t.1, .val (.int .i64) t.2.1, .own 10000000, .val (.int .i64) t.2.2.1, .dead, .dead, .dead, .dead, .dead, .dead, .dead, .dead, .dead, .dead, .dead, .dead, .dead, .dead, .dead, .dead, .dead, .dead, .dead, .dead, .dead, .dead, .dead, .dead, .dead, .dead, .dead, .dead, .dead, .dead, .dead, .dead, .dead, .dead, .dead, .dead, .dead, .dead, .dead, .dead, .dead, .dead, .dead], [(1, .box [.val (.sl 3 ts_i64) t.2.2.2.1, .val (.sl 97 ts_Node) t.2.2.2.2.1, .val (.sl 88 ts_Age) t.2.2.2.2.2.1, .val (.sl 94 ts_Cell) t.2.2.2.2.2.2.1, .val (.sl 90 ts_Vol) t.2.2.2.2.2.2.2.1, .val (.int .i64) t.2.2.2.2.2.2.2.2.1]), (10000000, .root true 105 ts_Key t.2.2.2.2.2.2.2.2.2)]⟩
def f93x8_1 (t : Int × List E_i64 × List E_Node × List E_Age × List E_Cell × List E_Vol × Int × List E_Key) : St := ⟨[.dead, .box 1 0, .dead, .dead, .own 10000000, .val (.int .i64) t.1, .dead, .dead, .dead, .dead, .dead, .dead, .dead, .dead, .dead, .dead, .dead, .dead, .dead, .dead, .dead, .dead, .dead, .dead, .dead, .dead, .dead, .dead, .dead, .dead, .dead, .dead, .dead, .dead, .dead, .dead, .dead, .dead, .dead, .dead, .dead, .dead, .dead, .dead, .dead, .dead, .dead, .dead, .dead], [(1, .box [.val (.sl 3 ts_i64) t.2.1, .val (.sl 97 ts_Node) t.2.2.1, .val (.sl 88 ts_Age) t.2.2.2.1, .val (.sl 94 ts_Cell) t.2.2.2.2.1, .val (.sl 90 ts_Vol) t.2.2.2.2.2.1, .val (.int .i64) t.2.2.2.2.2.2.1]), (10000000, .root true 105 ts_Key t.2.2.2.2.2.2.2)]⟩
def f93u8_0 (s : St) : Option (Int × Int × List E_i64 × List E_Node × List E_Age × List E_Cell × List E_Vol × Int × List E_Key) := (unS f93h8_0 f93o8_0 s).map fun v => (v.1.2.2.2.2.2.1, v.1.2.2.2.2.2.2.1, v.2.1.1, v.2.1.2.1, v.2.1.2.2.1, v.2.1.2.2.2.1, v.2.1.2.2.2.2.1, v.2.1.2.2.2.2.2.1, v.2.2.1)
theorem f93un8_0 : ∀ (s : St) (t : Int × Int × List E_i64 × List E_Node × List E_Age × List E_Cell × List E_Vol × Int × List E_Key), f93u8_0 s = some t → f93e8_0 t = s := fun s v h => by
  obtain ⟨u, hu, rfl⟩ := Option.map_eq_some_iff.1 h
  exact (show f93e8_0 (u.1.2.2.2.2.2.1, u.1.2.2.2.2.2.2.1, u.2.1.1, u.2.1.2.1, u.2.1.2.2.1, u.2.1.2.2.2.1, u.2.1.2.2.2.2.1, u.2.1.2.2.2.2.2.1, u.2.2.1) = mkS f93h8_0 f93o8_0 u by kernel_rfl).trans (mkS_un f93h8_0 f93o8_0 s u hu)
def f93u8 : St → Option (Int × Int × List E_i64 × List E_Node × List E_Age × List E_Cell × List E_Vol × Int × List E_Key) := f93u8_0
def f93e8 : (Int × Int × List E_i64 × List E_Node × List E_Age × List E_Cell × List E_Vol × Int × List E_Key) → St := f93e8_0
theorem f93un8 : ∀ (s : St) (t : Int × Int × List E_i64 × List E_Node × List E_Age × List E_Cell × List E_Vol × Int × List E_Key), f93u8 s = some t → f93e8 t = s := f93un8_0
def f93h5_0 : List Sh := [.dead, .box 1 0, .dead, .dead, .own 10000000, .v (.int .i64), .dead, .dead, .dead, .dead, .dead, .dead, .dead, .dead, .dead, .dead, .dead, .dead, .dead, .dead, .dead, .dead, .dead, .dead, .dead, .dead, .dead, .dead, .dead, .dead, .dead, .dead, .dead, .dead, .dead, .dead, .dead, .dead, .dead, .dead, .dead, .dead, .dead, .dead, .dead, .dead, .dead, .dead, .dead]
def f93o5_0 : List (Nat × OSh) := [(1, .box [.v (.sl 3 ts_i64), .v (.sl 97 ts_Node), .v (.sl 88 ts_Age), .v (.sl 94 ts_Cell), .v (.sl 90 ts_Vol), .v (.int .i64)]), (10000000, .root true 105 ts_Key)]
def f93e5_0 (t : Int × List E_i64 × List E_Node × List E_Age × List E_Cell × List E_Vol × Int × List E_Key) : St := ⟨[.dead, .box 1 0, .dead, .dead, .own 10000000, .val (.int .i64) t.1, .dead, .dead, .dead, .dead, .dead, .dead, .dead, .dead, .dead, .dead, .dead, .dead, .dead, .dead, .dead, .dead, .dead, .dead, .dead, .dead, .dead, .dead, .dead, .dead, .dead, .dead, .dead, .dead, .dead, .dead, .dead, .dead, .dead, .dead, .dead, .dead, .dead, .dead, .dead, .dead, .dead, .dead, .dead], [(1, .box [.val (.sl 3 ts_i64) t.2.1, .val (.sl 97 ts_Node) t.2.2.1, .val (.sl 88 ts_Age) t.2.2.2.1, .val (.sl 94 ts_Cell) t.2.2.2.2.1, .val (.sl 90 ts_Vol) t.2.2.2.2.2.1, .val (.int .i64) t.2.2.2.2.2.2.1]), (10000000, .root true 105 ts_Key t.2.2.2.2.2.2.2)]⟩
def f93x5_0 (t : Int × Int × List E_i64 × List E_Node × List E_Age × List E_Cell × List E_Vol × Int) : St := ⟨[.dead, .box 1 0, .val (.int .i64) t.1, .val (.int .i64) t.2.1, .dead, .dead, .dead, .dead, .dead, .dead, .dead, .dead, .dead, .dead, .dead, .dead, .dead, .dead, .dead, .dead, .dead, .dead, .dead, .dead, .dead, .dead, .dead, .dead, .dead, .dead, .dead, .dead, .dead, .dead, .dead, .dead, .dead, .dead, .dead, .dead, .dead, .dead, .dead, .dead, .dead, .dead, .dead, .dead, .dead], [(1, .box [.val (.sl 3 ts_i64) t.2.2.1, .val (.sl 97 ts_Node) t.2.2.2.1, .val (.sl 88 ts_Age) t.2.2.2.2.1, .val (.sl 94 ts_Cell) t.2.2.2.2.2.1, .val (.sl 90 ts_Vol) t.2.2.2.2.2.2.1, .val (.int .i64) t.2.2.2.2.2.2.2])]⟩
def f93x5_1 (t : List E_i64 × List E_Node × List E_Age × List E_Cell × List E_Vol × Int) : St := ⟨[.dead, .box 1 0, .dead, .dead, .dead, .dead, .dead, .dead, .dead, .dead, .dead, .dead, .dead, .dead, .dead, .dead, .dead, .dead, .dead, .dead, .dead, .dead, .dead, .dead, .dead, .dead, .dead, .dead, .dead, .dead, .dead, .dead, .dead, .dead, .dead, .dead, .dead, .dead, .dead, .dead, .dead, .dead, .dead, .dead, .dead, .dead, .dead, .dead, .dead], [(1, .box [.val (.sl 3 ts_i64) t.1, .val (.sl 97 ts_Node) t.2.1, .val (.sl 88 ts_Age) t.2.2.1, .val (.sl 94 ts_Cell) t.2.2.2.1, .val (.sl 90 ts_Vol) t.2.2.2.2.1, .val (.int .i64) t.2.2.2.2.2])]⟩
def f93u5_0 (s : St) : Option (Int × List E_i64 × List E_Node × List E_Age × List E_Cell × List E_Vol × Int × List E_Key) := (unS f93h5_0 f93o5_0 s).map fun v => (v.1.2.2.2.2.2.1, v.2.1.1, v.2.1.2.1, v.2.1.2.2.1, v.2.1.2.2.2.1, v.2.1.2.2.2.2.1, v.2.1.2.2.2.2.2.1, v.2.2.1)
theorem f93un5_0 : ∀ (s : St) (t : Int × List E_i64 × List E_Node × List E_Age × List E_Cell × List E_Vol × Int × List E_Key), f93u5_0 s = some t → f93e5_0 t = s := fun s v h => by
  obtain ⟨u, hu, rfl⟩ := Option.map_eq_some_iff.1 h
  exact (show f93e5_0 (u.1.2.2.2.2.2.1, u.2.1.1, u.2.1.2.1, u.2.1.2.2.1, u.2.1.2.2.2.1, u.2.1.2.2.2.2.1, u.2.1.2.2.2.2.2.1, u.2.2.1) = mkS f93h5_0 f93o5_0 u by kernel_rfl).trans (mkS_un f93h5_0 f93o5_0 s u hu)
def f93u5 : St → Option (Int × List E_i64 × List E_Node × List E_Age × List E_Cell × List E_Vol × Int × List E_Key) := f93u5_0
def f93e5 : (Int × List E_i64 × List E_Node × List E_Age × List E_Cell × List E_Vol × Int × List E_Key) → St := f93e5_0
theorem f93un5 : ∀ (s : St) (t : Int × List E_i64 × List E_Node × List E_Age × List E_Cell × List E_Vol × Int × List E_Key), f93u5 s = some t → f93e5 t = s := f93un5_0
def f93h13_0 : List Sh := [.dead, .box 1 0, .dead, .dead, .dead, .dead, .dead, .v (.int .i64), .dead, .dead, .dead, .dead, .dead, .dead, .dead, .dead, .dead, .dead, .dead, .dead, .dead, .dead, .dead, .dead, .dead, .dead, .dead, .dead, .dead, .dead, .dead, .dead, .dead, .dead, .dead, .dead, .dead, .dead, .dead, .dead, .dead, .dead, .dead, .dead, .dead, .dead, .dead, .dead, .dead]
def f93o13_0 : List (Nat × OSh) := [(1, .box [.v (.sl 3 ts_i64), .v (.sl 97 ts_Node), .v (.sl 88 ts_Age), .v (.sl 94 ts_Cell), .v (.sl 90 ts_Vol), .v (.int .i64)])]
def f93e13_0 (t : Int × List E_i64 × List E_Node × List E_Age × List E_Cell × List E_Vol × Int) : St := ⟨[.dead, .box 1 0, .dead, .dead, .dead, .dead, .dead, .val (.int .i64) t.1, .dead, .dead, .dead, .dead, .dead, .dead, .dead, .dead, .dead, .dead, .dead, .dead, .dead, .dead, .dead, .dead, .dead, .dead, .dead, .dead, .dead, .dead, .dead, .dead, .dead, .dead, .dead, .dead, .dead, .dead, .dead, .dead, .dead, .dead, .dead, .dead, .dead, .dead, .dead, .dead, .dead], [(1, .box [.val (.sl 3 ts_i64) t.2.1, .val (.sl 97 ts_Node) t.2.2.1, .val (.sl 88 ts_Age) t.2.2.2.1, .val (.sl 94 ts_Cell) t.2.2.2.2.1, .val (.sl 90 ts_Vol) t.2.2.2.2.2.1, .val (.int .i64) t.2.2.2.2.2.2])]⟩
def f93x13_0 (t : Int × Int) : St := ⟨[.dead, .dead, .val (.int .i64) t.1, .val (.int .i64) t.2, .dead, .dead, .dead, .dead, .dead, .dead, .dead, .dead, .dead, .dead, .dead, .dead, .dead, .dead, .dead, .dead, .dead, .dead, .dead, .dead, .dead, .dead, .dead, .dead, .dead, .dead, .dead, .dead, .dead, .dead, .dead, .dead, .dead, .dead, .dead, .dead, .dead, .dead, .dead, .dead, .dead, .dead, .dead, .dead, .dead], []⟩
def f93x13_1 (t : Unit) : St := ⟨[.dead, .dead, .dead, .dead, .dead, .dead, .dead, .dead, .dead, .dead, .dead, .dead, .dead, .dead, .dead, .dead, .dead, .dead, .dead, .dead, .dead, .dead, .dead, .dead, .dead, .dead, .dead, .dead, .dead, .dead, .dead, .dead, .dead, .dead, .dead, .dead, .dead, .dead, .dead, .dead, .dead, .dead, .dead, .dead, .dead, .dead, .dead, .dead, .dead], []⟩
def f93u13_0 (s : St) : Option (Int × List E_i64 × List E_Node × List E_Age × List E_Cell × List E_Vol × Int) := (unS f93h13_0 f93o13_0 s).map fun v => (v.1.2.2.2.2.2.2.2.1, v.2.1.1, v.2.1.2.1, v.2.1.2.2.1, v.2.1.2.2.2.1, v.2.1.2.2.2.2.1, v.2.1.2.2.2.2.2.1)
theorem f93un13_0 : ∀ (s : St) (t : Int × List E_i64 × List E_Node × List E_Age × List E_Cell × List E_Vol × Int), f93u13_0 s = some t → f93e13_0 t = s := fun s v h => by
  obtain ⟨u, hu, rfl⟩ := Option.map_eq_some_iff.1 h
  exact (show f93e13_0 (u.1.2.2.2.2.2.2.2.1, u.2.1.1, u.2.1.2.1, u.2.1.2.2.1, u.2.1.2.2.2.1, u.2.1.2.2.2.2.1, u.2.1.2.2.2.2.2.1) = mkS f93h13_0 f93o13_0 u by kernel_rfl).trans (mkS_un f93h13_0 f93o13_0 s u hu)
def f93u13 : St → Option (Int × List E_i64 × List E_Node × List E_Age × List E_Cell × List E_Vol × Int) := f93u13_0
def f93e13 : (Int × List E_i64 × List E_Node × List E_Age × List E_Cell × List E_Vol × Int) → St := f93e13_0
theorem f93un13 : ∀ (s : St) (t : Int × List E_i64 × List E_Node × List E_Age × List E_Cell × List E_Vol × Int), f93u13 s = some t → f93e13 t = s := f93un13_0
noncomputable def f93P : Lp := fun i s {_R} κ => bif Nat.beq i 13 then (f93u13 s).bind fun t => L_spec_NextStep_13 (fun t => κ (none) (f93x13_0 t)) (fun t => κ (some 4) (f93x13_1 t)) t else bif Nat.beq i 5 then (f93u5 s).bind fun t => L_spec_NextStep_5 (fun t => κ (none) (f93x5_0 t)) (fun t => κ (some 0) (f93x5_1 t)) t else bif Nat.beq i 8 then (f93u8 s).bind fun t => L_spec_NextStep_8 (fun t => κ (none) (f93x8_0 t)) (fun t => κ (some 2) (f93x8_1 t)) t else none
noncomputable def f93c8 : Code := (loopsOf f93B).getD 1 .skip
theorem f93A8 : C.live 93 (firstRegion f93c8) = some ([1, 4, 5, 6], [1, 2, 3, 4, 5]) := by kernel_rfl
theorem f93B8 {R : Type} (κ : Option Nat → St → Option R) (s : St) : f93P (firstRegion f93c8) s κ = (f93u8 s).bind fun t => iter (S_spec_NextStep_8 (fun t => κ (none) (f93x8_0 t)) (fun t => κ (some 2) (f93x8_1 t))) FUEL t := by kernel_rfl
theorem f93C8 {R : Type} (κ : Option Nat → St → Option R) (again : St → Option R) (t : T_spec_NextStep_8) : stepL C f93K f93P 93 f93c8 [1, 4, 5, 6] [1, 2, 3, 4, 5] κ again (f93e8 t) = S_spec_NextStep_8 (fun t => κ (none) (f93x8_0 t)) (fun t => κ (some 2) (f93x8_1 t)) (fun t => again (f93e8 t)) t := by kernel_rfl
theorem f93ok8 : LoopOk C f93K f93P 93 f93c8 := loop_ok f93A8 f93e8 f93u8 f93un8 (fun {_R} κ => S_spec_NextStep_8 (fun t => κ (none) (f93x8_0 t)) (fun t => κ (some 2) (f93x8_1 t))) (fun {_R} κ s => f93B8 κ s) (fun {_R} κ again t => f93C8 κ again t)
noncomputable def f93c5 : Code := (loopsOf f93B).getD 0 .skip
theorem f93A5 : C.live 93 (firstRegion f93c5) = some ([1, 4, 5], [1, 2, 3]) := by kernel_rfl
theorem f93B5 {R : Type} (κ : Option Nat → St → Option R) (s : St) : f93P (firstRegion f93c5) s κ = (f93u5 s).bind fun t => iter (S_spec_NextStep_5 (fun t => κ (none) (f93x5_0 t)) (fun t => κ (some 0) (f93x5_1 t))) FUEL t := by kernel_rfl
theorem f93C5 {R : Type} (κ : Option Nat → St → Option R) (again : St → Option R) (t : T_spec_NextStep_5) : stepL C f93K f93P 93 f93c5 [1, 4, 5] [1, 2, 3] κ again (f93e5 t) = S_spec_NextStep_5 (fun t => κ (none) (f93x5_0 t)) (fun t => κ (some 0) (f93x5_1 t)) (fun t => again (f93e5 t)) t := by kernel_rfl
theorem f93ok5 : LoopOk C f93K f93P 93 f93c5 := loop_ok f93A5 f93e5 f93u5 f93un5 (fun {_R} κ => S_spec_NextStep_5 (fun t => κ (none) (f93x5_0 t)) (fun t => κ (some 0) (f93x5_1 t))) (fun {_R} κ s => f93B5 κ s) (fun {_R} κ again t => f93C5 κ again t)
noncomputable def f93c13 : Code := (loopsOf f93B).getD 2 .skip
theorem f93A13 : C.live 93 (firstRegion f93c13) = some ([1, 7], [2, 3]) := by kernel_rfl
theorem f93B13 {R : Type} (κ : Option Nat → St → Option R) (s : St) : f93P (firstRegion f93c13) s κ = (f93u13 s).bind fun t => iter (S_spec_NextStep_13 (fun t => κ (none) (f93x13_0 t)) (fun t => κ (some 4) (f93x13_1 t))) FUEL t := by kernel_rfl
theorem f93C13 {R : Type} (κ : Option Nat → St → Option R) (again : St → Option R) (t : T_spec_NextStep_13) : stepL C f93K f93P 93 f93c13 [1, 7] [2, 3] κ again (f93e13 t) = S_spec_NextStep_13 (fun t => κ (none) (f93x13_0 t)) (fun t => κ (some 4) (f93x13_1 t)) (fun t => again (f93e13 t)) t := by kernel_rfl
theorem f93ok13 : LoopOk C f93K f93P 93 f93c13 := loop_ok f93A13 f93e13 f93u13 f93un13 (fun {_R} κ => S_spec_NextStep_13 (fun t => κ (none) (f93x13_0 t)) (fun t => κ (some 4) (f93x13_1 t))) (fun {_R} κ s => f93B13 κ s) (fun {_R} κ again t => f93C13 κ again t)
theorem k93 : Contract C Tryz.prog f93K := contract_tab _ (fun p hp => by
    simp only [List.mem_cons, List.mem_nil_iff, or_false] at hp
    rcases hp with rfl | rfl | rfl | rfl
    · exact ok45
    · exact ok156
    · exact ok157
    · exact ok158)
theorem ev93 (x : List E_i64 × List E_Node × List E_Age × List E_Cell × List E_Vol × Int) : evalB C f93K f93P 93 Tryz.f93 f93B ⟨[.v true [(.sl 3 ts_i64), (.sl 97 ts_Node), (.sl 88 ts_Age), (.sl 94 ts_Cell), (.sl 90 ts_Vol), (.int .i64)] [false, false, false, false, false, false]], [⟨false, [(.int .i64)], [false]⟩, ⟨false, [(.int .i64)], [false]⟩], false⟩ [(.sl 3 ts_i64), (.sl 97 ts_Node), (.sl 88 ts_Age), (.sl 94 ts_Cell), (.sl 90 ts_Vol), (.int .i64)] [(.int .i64), (.int .i64)] x = F_spec_NextStep x := by kernel_rfl
theorem ok93 : ContractAt C Tryz.prog 93 F_spec_NextStep := fn_sound (lp := f93P) tok mixed k93 (by kernel_rfl) (fn := Tryz.f93) (c := f93B) (sg := ⟨[.v true [(.sl 3 ts_i64), (.sl 97 ts_Node), (.sl 88 ts_Age), (.sl 94 ts_Cell), (.sl 90 ts_Vol), (.int .i64)] [false, false, false, false, false, false]], [⟨false, [(.int .i64)], [false]⟩, ⟨false, [(.int .i64)], [false]⟩], false⟩) Tryz.func93 (by decide) (by kernel_rfl) (by kernel_rfl) (by kernel_rfl) (fun c' hc' => by
    rw [show loopsOf f93B = [f93c5, f93c8, f93c13] by kernel_rfl] at hc'
    simp only [List.mem_cons, List.mem_nil_iff, or_false] at hc'
    rcases hc' with rfl | rfl | rfl
    · exact f93ok5
    · exact f93ok8
    · exact f93ok13) (by decide) (by decide) (fun x y h => (ev93 x).trans h)
abbrev T_spec_Distinct_4 : Type := Int × Int × List E_i64 × List E_Node × List E_Age × List E_Cell × List E_Vol × Int × List E_Key
noncomputable def S_spec_Distinct_4 {R : Type} (k0 : Int → Option R) (again : T_spec_Distinct_4 → Option R) (t4 : T_spec_Distinct_4) : Option R :=
  bif (decide (t4.2.1 < ((List.length t4.2.2.2.2.2.2.2.2 : Nat) : Int))) then if (0 : Int) ≤ t4.2.1 then if t4.2.1 < ((List.length t4.2.2.2.2.2.2.2.2 : Nat) : Int) then Option.bind (bif ((rd_Key t4.2.2.2.2.2.2.2.2 t4.2.1).2.2.1 == (1 : Int)) then if (0 : Int) ≤ t4.2.1 then if t4.2.1 < ((List.length t4.2.2.2.2.2.2.2.2 : Nat) : Int) then Option.bind (F_spec_SeenByAny (t4.2.2.1, t4.2.2.2.1, t4.2.2.2.2.1, t4.2.2.2.2.2.1, t4.2.2.2.2.2.2.1, t4.2.2.2.2.2.2.2.1, (rd_Key t4.2.2.2.2.2.2.2.2 t4.2.1).1, (rd_Key t4.2.2.2.2.2.2.2.2 t4.2.1).2.1, (rd_Key t4.2.2.2.2.2.2.2.2 t4.2.1).2.2.1, (rd_Key t4.2.2.2.2.2.2.2.2 t4.2.1).2.2.2.1, (rd_Key t4.2.2.2.2.2.2.2.2 t4.2.1).2.2.2.2)) fun r3 => some r3 else none else none else some false) fun u2 => bif u2 then again ((Go.IntKind.wrap .i64 (t4.1 + (1 : Int))), (Go.IntKind.wrap .i64 (t4.2.1 + (1 : Int))), t4.2.2.1, t4.2.2.2.1, t4.2.2.2.2.1, t4.2.2.2.2.2.1, t4.2.2.2.2.2.2.1, t4.2.2.2.2.2.2.2.1, t4.2.2.2.2.2.2.2.2) else again (t4.1, (Go.IntKind.wrap .i64 (t4.2.1 + (1 : Int))), t4.2.2.1, t4.2.2.2.1, t4.2.2.2.2.1, t4.2.2.2.2.2.1, t4.2.2.2.2.2.2.1, t4.2.2.2.2.2.2.2.1, t4.2.2.2.2.2.2.2.2) else none else none else k0 t4.1
noncomputable def L_spec_Distinct_4 {R : Type} (k0 : Int → Option R) (t : T_spec_Distinct_4) : Option R := iter (S_spec_Distinct_4 k0) FUEL t
noncomputable def F_spec_Distinct (x : List E_i64 × List E_Node × List E_Age × List E_Cell × List E_Vol × Int) : Option (Int) :=
  Option.bind (F_spec_TreeKeys (x.1, x.2.1)) fun r1 => L_spec_Distinct_4 (fun x4 => some x4) ((0 : Int), (0 : Int), x.1, x.2.1, x.2.2.1, x.2.2.2.1, x.2.2.2.2.1, x.2.2.2.2.2, r1)
noncomputable def f95B : Code := match Tryz.f95.body with
  | some c => c
  | none => .skip
noncomputable def f95K : C.Sem := tab [⟨156, F_spec_TreeKeys⟩, ⟨159, F_spec_SeenByAny⟩]
def f95h4_0 : List Sh := [.dead, .box 1 0, .dead, .v (.int .i64), .own 10000000, .v (.int .i64), .dead, .dead, .dead, .dead, .dead, .dead, .dead, .dead, .dead, .dead, .dead, .dead, .dead, .dead, .dead, .dead, .dead, .dead, .dead, .dead, .dead, .dead, .dead, .dead, .dead, .dead]
def f95o4_0 : List (Nat × OSh) := [(1, .box [.v (.sl 3 ts_i64), .v (.sl 97 ts_Node), .v (.sl 88 ts_Age), .v (.sl 94 ts_Cell), .v (.sl 90 ts_Vol), .v (.int .i64)]), (10000000, .root true 105 ts_Key)]
def f95e4_0 (t : Int × Int × List E_i64 × List E_Node × List E_Age × List E_Cell × List E_Vol × Int × List E_Key) : St := ⟨[.dead, .box 1 0, .dead, .val (.int .i64) t.1, .own 10000000, .val (.int .i64) t.2.1, .dead, .dead, .dead, .dead, .dead, .dead, .dead, .dead, .dead, .dead, .dead, .dead, .dead, .dead, .dead, .dead, .dead, .dead, .dead, .dead, .dead, .dead, .dead, .dead, .dead, .dead], [(1, .box [.val (.sl 3 ts_i64) t.2.2.1, .val (.sl 97 ts_Node) t.2.2.2.1, .val (.sl 88 ts_Age) t.2.2.2.2.1, .val (.sl 94 ts_Cell) t.2.2.2.2.2.1, .val (.sl 90 ts_Vol) t.2.2.2.2.2.2.1, .val (.int .i64) t.2.2.2.2.2.2.2.1]), (10000000, .root true 105 ts_Key t.2.2.2.2.2.2.2.2)]⟩
def f95x4_0 (t : Int) : St := ⟨[.dead, .dead, .dead, .val (.int .i64) t, .dead, .dead, .dead, .dead, .dead, .dead, .dead, .dead, .dead, .dead, .dead, .dead, .dead, .dead, .dead, .dead, .dead, .dead, .dead, .dead, .dead, .dead, .dead, .dead, .dead, .dead, .dead, .dead], []⟩
def f95u4_0 (s : St) : Option (Int × Int × List E_i64 × List E_Node × List E_Age × List E_Cell × List E_Vol × Int × List E_Key) := (unS f95h4_0 f95o4_0 s).map fun v => (v.1.2.2.2.1, v.1.2.2.2.2.2.1, v.2.1.1, v.2.1.2.1, v.2.1.2.2.1, v.2.1.2.2.2.1, v.2.1.2.2.2.2.1, v.2.1.2.2.2.2.2.1, v.2.2.1)
theorem f95un4_0 : ∀ (s : St) (t : Int × Int × List E_i64 × List E_Node × List E_Age × List E_Cell × List E_Vol × Int × List E_Key), f95u4_0 s = some t → f95e4_0 t = s := fun s v h => by
  obtain ⟨u, hu, rfl⟩ := Option.map_eq_some_iff.1 h
  exact (show f95e4_0 (u.1.2.2.2.1, u.1.2.2.2.2.2.1, u.2.1.1, u.2.1.2.1, u.2.1.2.2.1, u.2.1.2.2.2.1, u.2.1.2.2.2.2.1, u.2.1.2.2.2.2.2.1, u.2.2.1) = mkS f95h4_0 f95o4_0 u by kernel_rfl).trans (mkS_un f95h4_0 f95o4_0 s u hu)
def f95u4 : St → Option (Int × Int × List E_i64 × List E_Node × List E_Age × List E_Cell × List E_Vol × Int × List E_Key) := f95u4_0
def f95e4 : (Int × Int × List E_i64 × List E_Node × List E_Age × List E_Cell × List E_Vol × Int × List E_Key) → St := f95e4_0
theorem f95un4 : ∀ (s : St) (t : Int × Int × List E_i64 × List E_Node × List E_Age × List E_Cell × List E_Vol × Int × List E_Key), f95u4 s = some t → f95e4 t = s := f95un4_0
noncomputable def f95P : Lp := fun i s {_R} κ => bif Nat.beq i 4 then (f95u4 s).bind fun t => L_spec_Distinct_4 (fun t => κ (some 0) (f95x4_0 t)) t else none
noncomputable def f95c4 : Code := (loopsOf f95B).getD 0 .skip
theorem f95A4 : C.live 95 (firstRegion f95c4) = some ([1, 3, 4, 5, 22, 23, 24, 25, 26, 27], [3]) := by kernel_rfl
theorem f95B4 {R : Type} (κ : Option Nat → St → Option R) (s : St) : f95P (firstRegion f95c4) s κ = (f95u4 s).bind fun t => iter (S_spec_Distinct_4 (fun t => κ (some 0) (f95x4_0 t))) FUEL t := by kernel_rfl
theorem f95C4 {R : Type} (κ : Option Nat → St → Option R) (again : St → Option R) (t : T_spec_Distinct_4) : stepL C f95K f95P 95 f95c4 [1, 3, 4, 5, 22, 23, 24, 25, 26, 27] [3] κ again (f95e4 t) = S_spec_Distinct_4 (fun t => κ (some 0) (f95x4_0 t)) (fun t => again (f95e4 t)) t := by kernel_rfl
theorem f95ok4 : LoopOk C f95K f95P 95 f95c4 := loop_ok f95A4 f95e4 f95u4 f95un4 (fun {_R} κ => S_spec_Distinct_4 (fun t => κ (some 0) (f95x4_0 t))) (fun {_R} κ s => f95B4 κ s) (fun {_R} κ again t => f95C4 κ again t)
theorem k95 : Contract C Tryz.prog f95K := contract_tab _ (fun p hp => by
    simp only [List.mem_cons, List.mem_nil_iff, or_false] at hp
    rcases hp with rfl | rfl
    · exact ok156
    · exact ok159)
theorem ev95 (x : List E_i64 × List E_Node × List E_Age × List E_Cell × List E_Vol × Int) : evalB C f95K f95P 95 Tryz.f95 f95B ⟨[.v true [(.sl 3 ts_i64), (.sl 97 ts_Node), (.sl 88 ts_Age), (.sl 94 ts_Cell), (.sl 90 ts_Vol), (.int .i64)] [false, false, false, false, false, false]], [⟨false, [(.int .i64)], [false]⟩], false⟩ [(.sl 3 ts_i64), (.sl 97 ts_Node), (.sl 88 ts_Age), (.sl 94 ts_Cell), (.sl 90 ts_Vol), (.int .i64)] [(.int .i64)] x = F_spec_Distinct x := by kernel_rfl
theorem ok95 : ContractAt C Tryz.prog 95 F_spec_Distinct := fn_sound (lp := f95P) tok mixed k95 (by kernel_rfl) (fn := Tryz.f95) (c := f95B) (sg := ⟨[.v true [(.sl 3 ts_i64), (.sl 97 ts_Node), (.sl 88 ts_Age), (.sl 94 ts_Cell), (.sl 90 ts_Vol), (.int .i64)] [false, false, false, false, false, false]], [⟨false, [(.int .i64)], [false]⟩], false⟩) Tryz.func95 (by decide) (by kernel_rfl) (by kernel_rfl) (by kernel_rfl) (fun c' hc' => by
    rw [show loopsOf f95B = [f95c4] by kernel_rfl] at hc'
    simp only [List.mem_cons, List.mem_nil_iff, or_false] at hc'
    rcases hc' with rfl
    · exact f95ok4) (by decide) (by decide) (fun x y h => (ev95 x).trans h)
noncomputable def F_spec_CalmOk (x : List E_i64 × List E_Node × List E_Age × List E_Cell × List E_Vol × Int) : Option (Bool) :=
  Option.bind (F_spec_NextStep (x.1, x.2.1, x.2.2.1, x.2.2.2.1, x.2.2.2.2.1, x.2.2.2.2.2)) fun r1 => Option.bind (F_spec_PoolOk (x.1, x.2.1, x.2.2.1, x.2.2.2.1, x.2.2.2.2.1, x.2.2.2.2.2)) fun r2 => Option.bind (bif r2 then some (r1.1 == (0 : Int)) else some false) fun u3 => Option.bind (bif u3 then Option.bind (F_spec_UsedCells x.2.2.2.1) fun r5 => Option.bind (F_spec_Distinct (x.1, x.2.1, x.2.2.1, x.2.2.2.1, x.2.2.2.2.1, x.2.2.2.2.2)) fun r6 => some (r5 == r6) else some false) fun u4 => some u4
noncomputable def f34B : Code := match Tryz.f34.body with
  | some c => c
  | none => .skip
noncomputable def f34K : C.Sem := tab [⟨45, F_spec_PoolOk⟩, ⟨93, F_spec_NextStep⟩, ⟨94, F_spec_UsedCells⟩, ⟨95, F_spec_Distinct⟩]
noncomputable def f34P : Lp := fun i s {_R} κ => none
theorem k34 : Contract C Tryz.prog f34K := contract_tab _ (fun p hp => by
    simp only [List.mem_cons, List.mem_nil_iff, or_false] at hp
    rcases hp with rfl | rfl | rfl | rfl
    · exact ok45
    · exact ok93
    · exact ok94
    · exact ok95)
theorem ev34 (x : List E_i64 × List E_Node × List E_Age × List E_Cell × List E_Vol × Int) : evalB C f34K f34P 34 Tryz.f34 f34B ⟨[.v true [(.sl 3 ts_i64), (.sl 97 ts_Node), (.sl 88 ts_Age), (.sl 94 ts_Cell), (.sl 90 ts_Vol), (.int .i64)] [false, false, false, false, false, false]], [⟨false, [.bool], [false]⟩], false⟩ [(.sl 3 ts_i64), (.sl 97 ts_Node), (.sl 88 ts_Age), (.sl 94 ts_Cell), (.sl 90 ts_Vol), (.int .i64)] [.bool] x = F_spec_CalmOk x := by kernel_rfl
theorem ok34 : ContractAt C Tryz.prog 34 F_spec_CalmOk := fn_sound (lp := f34P) tok mixed k34 (by kernel_rfl) (fn := Tryz.f34) (c := f34B) (sg := ⟨[.v true [(.sl 3 ts_i64), (.sl 97 ts_Node), (.sl 88 ts_Age), (.sl 94 ts_Cell), (.sl 90 ts_Vol), (.int .i64)] [false, false, false, false, false, false]], [⟨false, [.bool], [false]⟩], false⟩) Tryz.func34 (by decide) (by kernel_rfl) (by kernel_rfl) (by kernel_rfl) (fun c' hc' => by
    rw [show loopsOf f34B = [] by kernel_rfl] at hc'
    cases hc') (by decide) (by decide) (fun x y h => (ev34 x).trans h)
noncomputable def F_impl_within (x : Int × Int × Int) : Option (Bool) :=
  Option.bind (bif (decide (x.1 ≥ x.2.1)) then some (decide (x.1 ≤ x.2.2)) else some false) fun u1 => some u1
noncomputable def f103B : Code := match Tryz.f103.body with
  | some c => c
  | none => .skip
noncomputable def f103K : C.Sem := tab []
noncomputable def f103P : Lp := fun i s {_R} κ => none
theorem k103 : Contract C Tryz.prog f103K := contract_tab _ (fun p hp => by cases hp)
theorem ev103 (x : Int × Int × Int) : evalB C f103K f103P 103 Tryz.f103 f103B ⟨[.v false [(.int .i64)] [false], .v false [(.int .i64)] [false], .v false [(.int .i64)] [false]], [⟨false, [.bool], [false]⟩], false⟩ [(.int .i64), (.int .i64), (.int .i64)] [.bool] x = F_impl_within x := by kernel_rfl
theorem ok103 : ContractAt C Tryz.prog 103 F_impl_within := fn_sound (lp := f103P) tok mixed k103 (by kernel_rfl) (fn := Tryz.f103) (c := f103B) (sg := ⟨[.v false [(.int .i64)] [false], .v false [(.int .i64)] [false], .v false [(.int .i64)] [false]], [⟨false, [.bool], [false]⟩], false⟩) Tryz.func103 (by decide) (by kernel_rfl) (by kernel_rfl) (by kernel_rfl) (fun c' hc' => by
    rw [show loopsOf f103B = [] by kernel_rfl] at hc'
    cases hc') (by decide) (by decide) (fun x y h => (ev103 x).trans h)
noncomputable def F_impl_KeyOk (x : Int × Int × Int × Int × Int) : Option (Bool) :=
  Option.bind (F_impl_within (x.1, (0 : Int), (15 : Int))) fun r1 => Option.bind (bif (!r1) then some true else Option.bind (F_impl_within (x.2.1, (1 : Int), (60 : Int))) fun r3 => some (!r3)) fun u2 => Option.bind (bif u2 then some true else Option.bind (F_impl_within (x.2.2.1, (0 : Int), (2 : Int))) fun r5 => some (!r5)) fun u4 => bif u4 then some false else bif (x.2.2.1 != (1 : Int)) then Option.bind (bif (x.2.2.2.1 == (0 : Int)) then some (x.2.2.2.2 == (0 : Int)) else some false) fun u6 => some u6 else Option.bind (F_impl_within (x.2.2.2.1, (0 : Int), (23 : Int))) fun r7 => Option.bind (bif r7 then Option.bind (F_impl_within (x.2.2.2.2, (0 : Int), (999 : Int))) fun r9 => some r9 else some false) fun u8 => some u8
noncomputable def f125B : Code := match Tryz.f125.body with
  | some c => c
  | none => .skip
noncomputable def f125K : C.Sem := tab [⟨103, F_impl_within⟩]
noncomputable def f125P : Lp := fun i s {_R} κ => none
theorem k125 : Contract C Tryz.prog f125K := contract_tab _ (fun p hp => by
    simp only [List.mem_cons, List.mem_nil_iff, or_false] at hp
    rcases hp with rfl
    · exact ok103)
theorem ev125 (x : Int × Int × Int × Int × Int) : evalB C f125K f125P 125 Tryz.f125 f125B ⟨[.v true [(.int .i64), (.int .i64), (.int .i64), (.int .i64), (.int .i64)] [false, false, false, false, false]], [⟨false, [.bool], [false]⟩], false⟩ [(.int .i64), (.int .i64), (.int .i64), (.int .i64), (.int .i64)] [.bool] x = F_impl_KeyOk x := by kernel_rfl
theorem ok125 : ContractAt C Tryz.prog 125 F_impl_KeyOk := fn_sound (lp := f125P) tok mixed k125 (by kernel_rfl) (fn := Tryz.f125) (c := f125B) (sg := ⟨[.v true [(.int .i64), (.int .i64), (.int .i64), (.int .i64), (.int .i64)] [false, false, false, false, false]], [⟨false, [.bool], [false]⟩], false⟩) Tryz.func125 (by decide) (by kernel_rfl) (by kernel_rfl) (by kernel_rfl) (fun c' hc' => by
    rw [show loopsOf f125B = [] by kernel_rfl] at hc'
    cases hc') (by decide) (by decide) (fun x y h => (ev125 x).trans h)
noncomputable def F_impl_LessKey (x : Int × Int × Int × Int × Int × Int × Int × Int × Int × Int) : Option (Bool) :=
  Option.bind (bif (decide (x.1 < x.2.2.2.2.2.1)) then some true else Option.bind (bif (x.1 == x.2.2.2.2.2.1) then some (decide (x.2.1 < x.2.2.2.2.2.2.1)) else some false) fun u2 => some u2) fun u1 => some u1
noncomputable def f260B : Code := match Tryz.f260.body with
  | some c => c
  | none => .skip
noncomputable def f260K : C.Sem := tab []
noncomputable def f260P : Lp := fun i s {_R} κ => none
theorem k260 : Contract C Tryz.prog f260K := contract_tab _ (fun p hp => by cases hp)
theorem ev260 (x : Int × Int × Int × Int × Int × Int × Int × Int × Int × Int) : evalB C f260K f260P 260 Tryz.f260 f260B ⟨[.v true [(.int .i64), (.int .i64), (.int .i64), (.int .i64), (.int .i64)] [false, false, false, false, false], .v true [(.int .i64), (.int .i64), (.int .i64), (.int .i64), (.int .i64)] [false, false, false, false, false]], [⟨false, [.bool], [false]⟩], false⟩ [(.int .i64), (.int .i64), (.int .i64), (.int .i64), (.int .i64), (.int .i64), (.int .i64), (.int .i64), (.int .i64), (.int .i64)] [.bool] x = F_impl_LessKey x := by kernel_rfl
theorem ok260 : ContractAt C Tryz.prog 260 F_impl_LessKey := fn_sound (lp := f260P) tok mixed k260 (by kernel_rfl) (fn := Tryz.f260) (c := f260B) (sg := ⟨[.v true [(.int .i64), (.int .i64), (.int .i64), (.int .i64), (.int .i64)] [false, false, false, false, false], .v true [(.int .i64), (.int .i64), (.int .i64), (.int .i64), (.int .i64)] [false, false, false, false, false]], [⟨false, [.bool], [false]⟩], false⟩) Tryz.func260 (by decide) (by kernel_rfl) (by kernel_rfl) (by kernel_rfl) (fun c' hc' => by
    rw [show loopsOf f260B = [] by kernel_rfl] at hc'
    cases hc') (by decide) (by decide) (fun x y h => (ev260 x).trans h)
abbrev T_impl_SetOk_2 : Type := List E_Key × List E_Key × Int × Int
noncomputable def S_impl_SetOk_2 {R : Type} (k0 : (List E_Key × Bool) → Option R) (k1 : List E_Key → Option R) (again : T_impl_SetOk_2 → Option R) (t2 : T_impl_SetOk_2) : Option R :=
  bif (decide (t2.2.2.2 < t2.2.2.1)) then if (0 : Int) ≤ t2.2.2.2 then if t2.2.2.2 < ((List.length t2.2.1 : Nat) : Int) then Option.bind (F_impl_KeyOk ((rd_Key t2.2.1 t2.2.2.2).1, (rd_Key t2.2.1 t2.2.2.2).2.1, (rd_Key t2.2.1 t2.2.2.2).2.2.1, (rd_Key t2.2.1 t2.2.2.2).2.2.2.1, (rd_Key t2.2.1 t2.2.2.2).2.2.2.2)) fun r1 => Option.bind (bif (!r1) then some true else Option.bind (bif (decide (t2.2.2.2 > (0 : Int))) then if (0 : Int) ≤ (Go.IntKind.wrap .i64 (t2.2.2.2 - (1 : Int))) then if (Go.IntKind.wrap .i64 (t2.2.2.2 - (1 : Int))) < ((List.length t2.1 : Nat) : Int) then Option.bind (F_impl_LessKey ((rd_Key t2.1 (Go.IntKind.wrap .i64 (t2.2.2.2 - (1 : Int)))).1, (rd_Key t2.1 (Go.IntKind.wrap .i64 (t2.2.2.2 - (1 : Int)))).2.1, (rd_Key t2.1 (Go.IntKind.wrap .i64 (t2.2.2.2 - (1 : Int)))).2.2.1, (rd_Key t2.1 (Go.IntKind.wrap .i64 (t2.2.2.2 - (1 : Int)))).2.2.2.1, (rd_Key t2.1 (Go.IntKind.wrap .i64 (t2.2.2.2 - (1 : Int)))).2.2.2.2, (rd_Key t2.2.1 t2.2.2.2).1, (rd_Key t2.2.1 t2.2.2.2).2.1, (rd_Key t2.2.1 t2.2.2.2).2.2.1, (rd_Key t2.2.1 t2.2.2.2).2.2.2.1, (rd_Key t2.2.1 t2.2.2.2).2.2.2.2)) fun r4 => some (!r4) else none else none else some false) fun u3 => some u3) fun u2 => bif u2 then k0 (t2.1, false) else again (t2.1, t2.2.1, t2.2.2.1, (Go.IntKind.wrap .i64 (t2.2.2.2 + (1 : Int)))) else none else none else k1 t2.1
noncomputable def L_impl_SetOk_2 {R : Type} (k0 : (List E_Key × Bool) → Option R) (k1 : List E_Key → Option R) (t : T_impl_SetOk_2) : Option R := iter (S_impl_SetOk_2 k0 k1) FUEL t
noncomputable def F_impl_SetOk (x : List E_Key) : Option (Bool) :=
  L_impl_SetOk_2 (fun x5 => some x5.2) (fun x6 => some (decide (((List.length x6 : Nat) : Int) ≤ (60 : Int)))) (x, x, ((List.length x : Nat) : Int), (0 : Int))
noncomputable def f225B : Code := match Tryz.f225.body with
  | some c => c
  | none => .skip
noncomputable def f225K : C.Sem := tab [⟨125, F_impl_KeyOk⟩, ⟨260, F_impl_LessKey⟩]
def f225h2_0 : List Sh := [.v (.sl 105 ts_Key), .dead, .dead, .dead, .dead, .v (.sl 105 ts_Key), .v (.int .i64), .v (.int .i64), .dead, .dead, .dead, .dead, .dead, .dead, .dead, .dead, .dead, .dead, .dead, .dead, .dead, .dead, .dead, .dead, .dead, .dead, .dead, .dead, .dead, .dead, .dead, .dead, .dead]
def f225o2_0 : List (Nat × OSh) := []
def f225e2_0 (t : List E_Key × List E_Key × Int × Int) : St := ⟨[.val (.sl 105 ts_Key) t.1, .dead, .dead, .dead, .dead, .val (.sl 105 ts_Key) t.2.1, .val (.int .i64) t.2.2.1, .val (.int .i64) t.2.2.2, .dead, .dead, .dead, .dead, .dead, .dead, .dead, .dead, .dead, .dead, .dead, .dead, .dead, .dead, .dead, .dead, .dead, .dead, .dead, .dead, .dead, .dead, .dead, .dead, .dead], []⟩
def f225x2_0 (t : List E_Key × Bool) : St := ⟨[.val (.sl 105 ts_Key) t.1, .dead, .val .bool t.2, .dead, .dead, .dead, .dead, .dead, .dead, .dead, .dead, .dead, .dead, .dead, .dead, .dead, .dead, .dead, .dead, .dead, .dead, .dead, .dead, .dead, .dead, .dead, .dead, .dead, .dead, .dead, .dead, .dead, .dead], []⟩
def f225x2_1 (t : List E_Key) : St := ⟨[.val (.sl 105 ts_Key) t, .dead, .dead, .dead, .dead, .dead, .dead, .dead, .dead, .dead, .dead, .dead, .dead, .dead, .dead, .dead, .dead, .dead, .dead, .dead, .dead, .dead, .dead, .dead, .dead, .dead, .dead, .dead, .dead, .dead, .dead, .dead, .dead], []⟩
def f225u2_0 (s : St) : Option (List E_Key × List E_Key × Int × Int) := (unS f225h2_0 f225o2_0 s).map fun v => (v.1.1, v.1.2.2.2.2.2.1, v.1.2.2.2.2.2.2.1, v.1.2.2.2.2.2.2.2.1)
theorem f225un2_0 : ∀ (s : St) (t : List E_Key × List E_Key × Int × Int), f225u2_0 s = some t → f225e2_0 t = s := fun s v h => by
  obtain ⟨u, hu, rfl⟩ := Option.map_eq_some_iff.1 h
  exact (show f225e2_0 (u.1.1, u.1.2.2.2.2.2.1, u.1.2.2.2.2.2.2.1, u.1.2.2.2.2.2.2.2.1) = mkS f225h2_0 f225o2_0 u by kernel_rfl).trans (mkS_un f225h2_0 f225o2_0 s u hu)
def f225u2 : St → Option (List E_Key × List E_Key × Int × Int) := f225u2_0
def f225e2 : (List E_Key × List E_Key × Int × Int) → St := f225e2_0
theorem f225un2 : ∀ (s : St) (t : List E_Key × List E_Key × Int × Int), f225u2 s = some t → f225e2 t = s := f225un2_0
noncomputable def f225P : Lp := fun i s {_R} κ => bif Nat.beq i 2 then (f225u2 s).bind fun t => L_impl_SetOk_2 (fun t => κ (none) (f225x2_0 t)) (fun t => κ (some 0) (f225x2_1 t)) t else none
noncomputable def f225c2 : Code := (loopsOf f225B).getD 0 .skip
theorem f225A2 : C.live 225 (firstRegion f225c2) = some ([0, 5, 6, 7, 16, 17, 18, 19, 20, 21, 22, 23, 24, 25, 26, 27], [0, 2]) := by kernel_rfl
theorem f225B2 {R : Type} (κ : Option Nat → St → Option R) (s : St) : f225P (firstRegion f225c2) s κ = (f225u2 s).bind fun t => iter (S_impl_SetOk_2 (fun t => κ (none) (f225x2_0 t)) (fun t => κ (some 0) (f225x2_1 t))) FUEL t := by kernel_rfl
theorem f225C2 {R : Type} (κ : Option Nat → St → Option R) (again : St → Option R) (t : T_impl_SetOk_2) : stepL C f225K f225P 225 f225c2 [0, 5, 6, 7, 16, 17, 18, 19, 20, 21, 22, 23, 24, 25, 26, 27] [0, 2] κ again (f225e2 t) = S_impl_SetOk_2 (fun t => κ (none) (f225x2_0 t)) (fun t => κ (some 0) (f225x2_1 t)) (fun t => again (f225e2 t)) t := by kernel_rfl
theorem f225ok2 : LoopOk C f225K f225P 225 f225c2 := loop_ok f225A2 f225e2 f225u2 f225un2 (fun {_R} κ => S_impl_SetOk_2 (fun t => κ (none) (f225x2_0 t)) (fun t => κ (some 0) (f225x2_1 t))) (fun {_R} κ s => f225B2 κ s) (fun {_R} κ again t => f225C2 κ again t)
theorem k225 : Contract C Tryz.prog f225K := contract_tab _ (fun p hp => by
    simp only [List.mem_cons, List.mem_nil_iff, or_false] at hp
    rcases hp with rfl | rfl
    · exact ok125
    · exact ok260)
theorem ev225 (x : List E_Key) : evalB C f225K f225P 225 Tryz.f225 f225B ⟨[.v false [(.sl 105 ts_Key)] [false]], [⟨false, [.bool], [false]⟩], false⟩ [(.sl 105 ts_Key)] [.bool] x = F_impl_SetOk x := by kernel_rfl
theorem ok225 : ContractAt C Tryz.prog 225 F_impl_SetOk := fn_sound (lp := f225P) tok mixed k225 (by kernel_rfl) (fn := Tryz.f225) (c := f225B) (sg := ⟨[.v false [(.sl 105 ts_Key)] [false]], [⟨false, [.bool], [false]⟩], false⟩) Tryz.func225 (by decide) (by kernel_rfl) (by kernel_rfl) (by kernel_rfl) (fun c' hc' => by
    rw [show loopsOf f225B = [f225c2] by kernel_rfl] at hc'
    simp only [List.mem_cons, List.mem_nil_iff, or_false] at hc'
    rcases hc' with rfl
    · exact f225ok2) (by decide) (by decide) (fun x y h => (ev225 x).trans h)
abbrev T_impl_NodeOk_3 : Type := Int × List E_s_Key × Int × Int × List E_s_Key
noncomputable def S_impl_NodeOk_3 {R : Type} (k0 : (Bool × Int × List E_s_Key) → Option R) (k1 : (Int × List E_s_Key) → Option R) (again : T_impl_NodeOk_3 → Option R) (t3 : T_impl_NodeOk_3) : Option R :=
  bif (decide (t3.2.2.2.1 < t3.2.2.1)) then if (0 : Int) ≤ t3.2.2.2.1 then if t3.2.2.2.1 < ((List.length t3.2.1 : Nat) : Int) then Option.bind (F_impl_SetOk (rd_s_Key t3.2.1 t3.2.2.2.1)) fun r1 => Option.bind (bif (!r1) then some true else some (((List.length (rd_s_Key t3.2.1 t3.2.2.2.1) : Nat) : Int) == (0 : Int))) fun u2 => bif u2 then k0 (false, t3.1, t3.2.2.2.2) else again ((Go.IntKind.wrap .i64 (t3.1 + ((List.length (rd_s_Key t3.2.1 t3.2.2.2.1) : Nat) : Int))), t3.2.1, t3.2.2.1, (Go.IntKind.wrap .i64 (t3.2.2.2.1 + (1 : Int))), t3.2.2.2.2) else none else none else k1 (t3.1, t3.2.2.2.2)
noncomputable def L_impl_NodeOk_3 {R : Type} (k0 : (Bool × Int × List E_s_Key) → Option R) (k1 : (Int × List E_s_Key) → Option R) (t : T_impl_NodeOk_3) : Option R := iter (S_impl_NodeOk_3 k0 k1) FUEL t
noncomputable def F_impl_NodeOk (x : List E_s_Key) : Option (Bool) :=
  L_impl_NodeOk_3 (fun x3 => some x3.1) (fun x4 => Option.bind (bif (decide (((List.length x4.2 : Nat) : Int) ≤ (3 : Int))) then some (decide (x4.1 ≤ (8 : Int))) else some false) fun u5 => some u5) ((0 : Int), x, ((List.length x : Nat) : Int), (0 : Int), x)
noncomputable def f183B : Code := match Tryz.f183.body with
  | some c => c
  | none => .skip
noncomputable def f183K : C.Sem := tab [⟨225, F_impl_SetOk⟩]
def f183h3_0 : List Sh := [.dead, .box 1 0, .dead, .v (.int .i64), .dead, .dead, .dead, .v (.sl 99 ts_s_Key), .v (.int .i64), .v (.int .i64), .dead, .dead, .dead, .dead, .dead, .dead, .dead, .dead, .dead, .dead, .dead, .dead, .dead, .dead, .dead, .dead, .dead, .dead, .dead, .dead, .dead, .dead, .dead, .dead]
def f183o3_0 : List (Nat × OSh) := [(1, .box [.v (.sl 99 ts_s_Key)])]
def f183e3_0 (t : Int × List E_s_Key × Int × Int × List E_s_Key) : St := ⟨[.dead, .box 1 0, .dead, .val (.int .i64) t.1, .dead, .dead, .dead, .val (.sl 99 ts_s_Key) t.2.1, .val (.int .i64) t.2.2.1, .val (.int .i64) t.2.2.2.1, .dead, .dead, .dead, .dead, .dead, .dead, .dead, .dead, .dead, .dead, .dead, .dead, .dead, .dead, .dead, .dead, .dead, .dead, .dead, .dead, .dead, .dead, .dead, .dead], [(1, .box [.val (.sl 99 ts_s_Key) t.2.2.2.2])]⟩
def f183x3_0 (t : Bool × Int × List E_s_Key) : St := ⟨[.dead, .box 1 0, .val .bool t.1, .val (.int .i64) t.2.1, .dead, .dead, .dead, .dead, .dead, .dead, .dead, .dead, .dead, .dead, .dead, .dead, .dead, .dead, .dead, .dead, .dead, .dead, .dead, .dead, .dead, .dead, .dead, .dead, .dead, .dead, .dead, .dead, .dead, .dead], [(1, .box [.val (.sl 99 ts_s_Key) t.2.2])]⟩
def f183x3_1 (t : Int × List E_s_Key) : St := ⟨[.dead, .box 1 0, .dead, .val (.int .i64) t.1, .dead, .dead, .dead, .dead, .dead, .dead, .dead, .dead, .dead, .dead, .dead, .dead, .dead, .dead, .dead, .dead, .dead, .dead, .dead, .dead, .dead, .dead, .dead, .dead, .dead, .dead, .dead, .dead, .dead, .dead], [(1, .box [.val (.sl 99 ts_s_Key) t.2])]⟩
def f183u3_0 (s : St) : Option (Int × List E_s_Key × Int × Int × List E_s_Key) := (unS f183h3_0 f183o3_0 s).map fun v => (v.1.2.2.2.1, v.1.2.2.2.2.2.2.2.1, v.1.2.2.2.2.2.2.2.2.1, v.1.2.2.2.2.2.2.2.2.2.1, v.2.1.1)
theorem f183un3_0 : ∀ (s : St) (t : Int × List E_s_Key × Int × Int × List E_s_Key), f183u3_0 s = some t → f183e3_0 t = s := fun s v h => by
  obtain ⟨u, hu, rfl⟩ := Option.map_eq_some_iff.1 h
  exact (show f183e3_0 (u.1.2.2.2.1, u.1.2.2.2.2.2.2.2.1, u.1.2.2.2.2.2.2.2.2.1, u.1.2.2.2.2.2.2.2.2.2.1, u.2.1.1) = mkS f183h3_0 f183o3_0 u by kernel_rfl).trans (mkS_un f183h3_0 f183o3_0 s u hu)
def f183u3 : St → Option (Int × List E_s_Key × Int × Int × List E_s_Key) := f183u3_0
def f183e3 : (Int × List E_s_Key × Int × Int × List E_s_Key) → St := f183e3_0
theorem f183un3 : ∀ (s : St) (t : Int × List E_s_Key × Int × Int × List E_s_Key), f183u3 s = some t → f183e3 t = s := f183un3_0
noncomputable def f183P : Lp := fun i s {_R} κ => bif Nat.beq i 3 then (f183u3 s).bind fun t => L_impl_NodeOk_3 (fun t => κ (none) (f183x3_0 t)) (fun t => κ (some 0) (f183x3_1 t)) t else none
noncomputable def f183c3 : Code := (loopsOf f183B).getD 0 .skip
theorem f183A3 : C.live 183 (firstRegion f183c3) = some ([1, 3, 7, 8, 9, 17, 18, 19, 31, 32], [1, 2, 3, 31, 32]) := by kernel_rfl
theorem f183B3 {R : Type} (κ : Option Nat → St → Option R) (s : St) : f183P (firstRegion f183c3) s κ = (f183u3 s).bind fun t => iter (S_impl_NodeOk_3 (fun t => κ (none) (f183x3_0 t)) (fun t => κ (some 0) (f183x3_1 t))) FUEL t := by kernel_rfl
theorem f183C3 {R : Type} (κ : Option Nat → St → Option R) (again : St → Option R) (t : T_impl_NodeOk_3) : stepL C f183K f183P 183 f183c3 [1, 3, 7, 8, 9, 17, 18, 19, 31, 32] [1, 2, 3, 31, 32] κ again (f183e3 t) = S_impl_NodeOk_3 (fun t => κ (none) (f183x3_0 t)) (fun t => κ (some 0) (f183x3_1 t)) (fun t => again (f183e3 t)) t := by kernel_rfl
theorem f183ok3 : LoopOk C f183K f183P 183 f183c3 := loop_ok f183A3 f183e3 f183u3 f183un3 (fun {_R} κ => S_impl_NodeOk_3 (fun t => κ (none) (f183x3_0 t)) (fun t => κ (some 0) (f183x3_1 t))) (fun {_R} κ s => f183B3 κ s) (fun {_R} κ again t => f183C3 κ again t)
theorem k183 : Contract C Tryz.prog f183K := contract_tab _ (fun p hp => by
    simp only [List.mem_cons, List.mem_nil_iff, or_false] at hp
    rcases hp with rfl
    · exact ok225)
theorem ev183 (x : List E_s_Key) : evalB C f183K f183P 183 Tryz.f183 f183B ⟨[.v true [(.sl 99 ts_s_Key)] [false]], [⟨false, [.bool], [false]⟩], false⟩ [(.sl 99 ts_s_Key)] [.bool] x = F_impl_NodeOk x := by kernel_rfl
theorem ok183 : ContractAt C Tryz.prog 183 F_impl_NodeOk := fn_sound (lp := f183P) tok mixed k183 (by kernel_rfl) (fn := Tryz.f183) (c := f183B) (sg := ⟨[.v true [(.sl 99 ts_s_Key)] [false]], [⟨false, [.bool], [false]⟩], false⟩) Tryz.func183 (by decide) (by kernel_rfl) (by kernel_rfl) (by kernel_rfl) (fun c' hc' => by
    rw [show loopsOf f183B = [f183c3] by kernel_rfl] at hc'
    simp only [List.mem_cons, List.mem_nil_iff, or_false] at hc'
    rcases hc' with rfl
    · exact f183ok3) (by decide) (by decide) (fun x y h => (ev183 x).trans h)
noncomputable def F_impl_SpotOf (x : Int × Int) : Option (Int) :=
  some (Go.IntKind.wrap .i64 ((Go.IntKind.wrap .i64 ((64 : Int) * x.1)) + x.2))
noncomputable def f226B : Code := match Tryz.f226.body with
  | some c => c
  | none => .skip
noncomputable def f226K : C.Sem := tab []
noncomputable def f226P : Lp := fun i s {_R} κ => none
theorem k226 : Contract C Tryz.prog f226K := contract_tab _ (fun p hp => by cases hp)
theorem ev226 (x : Int × Int) : evalB C f226K f226P 226 Tryz.f226 f226B ⟨[.v false [(.int .i64)] [false], .v false [(.int .i64)] [false]], [⟨false, [(.int .i64)], [false]⟩], false⟩ [(.int .i64), (.int .i64)] [(.int .i64)] x = F_impl_SpotOf x := by kernel_rfl
theorem ok226 : ContractAt C Tryz.prog 226 F_impl_SpotOf := fn_sound (lp := f226P) tok mixed k226 (by kernel_rfl) (fn := Tryz.f226) (c := f226B) (sg := ⟨[.v false [(.int .i64)] [false], .v false [(.int .i64)] [false]], [⟨false, [(.int .i64)], [false]⟩], false⟩) Tryz.func226 (by decide) (by kernel_rfl) (by kernel_rfl) (by kernel_rfl) (fun c' hc' => by
    rw [show loopsOf f226B = [] by kernel_rfl] at hc'
    cases hc') (by decide) (by decide) (fun x y h => (ev226 x).trans h)
abbrev T_impl_inBounds_5 : Type := Int × List E_s_Key × Int × Int × List E_Key × Int × Int × List E_i64 × List E_Node
noncomputable def S_impl_inBounds_5 {R : Type} (k0 : (Int × Bool × List E_s_Key × Int × Int × List E_i64 × List E_Node) → Option R) (k1 : (Int × List E_s_Key × Int × Int × List E_i64 × List E_Node) → Option R) (again : T_impl_inBounds_5 → Option R) (t5 : T_impl_inBounds_5) : Option R :=
  bif (decide (t5.2.2.2.2.2.2.1 < t5.2.2.2.2.2.1)) then if (0 : Int) ≤ t5.2.2.2.2.2.2.1 then if t5.2.2.2.2.2.2.1 < ((List.length t5.2.2.2.2.1 : Nat) : Int) then Option.bind (F_impl_SpotOf ((rd_Key t5.2.2.2.2.1 t5.2.2.2.2.2.2.1).1, (rd_Key t5.2.2.2.2.1 t5.2.2.2.2.2.2.1).2.1)) fun r1 => if (0 : Int) ≤ t5.1 then if t5.1 < ((List.length t5.2.2.2.2.2.2.2.1 : Nat) : Int) then Option.bind (bif (decide (r1 < (rd_i64 t5.2.2.2.2.2.2.2.1 t5.1))) then some true else Option.bind (bif (decide ((Go.IntKind.wrap .i64 (t5.1 + (1 : Int))) < ((List.length t5.2.2.2.2.2.2.2.1 : Nat) : Int))) then if (0 : Int) ≤ (Go.IntKind.wrap .i64 (t5.1 + (1 : Int))) then if (Go.IntKind.wrap .i64 (t5.1 + (1 : Int))) < ((List.length t5.2.2.2.2.2.2.2.1 : Nat) : Int) then some (decide (r1 ≥ (rd_i64 t5.2.2.2.2.2.2.2.1 (Go.IntKind.wrap .i64 (t5.1 + (1 : Int)))))) else none else none else some false) fun u3 => some u3) fun u2 => bif u2 then k0 (t5.1, false, t5.2.1, t5.2.2.1, t5.2.2.2.1, t5.2.2.2.2.2.2.2.1, t5.2.2.2.2.2.2.2.2) else again (t5.1, t5.2.1, t5.2.2.1, t5.2.2.2.1, t5.2.2.2.2.1, t5.2.2.2.2.2.1, (Go.IntKind.wrap .i64 (t5.2.2.2.2.2.2.1 + (1 : Int))), t5.2.2.2.2.2.2.2.1, t5.2.2.2.2.2.2.2.2) else none else none else none else none else k1 (t5.1, t5.2.1, t5.2.2.1, t5.2.2.2.1, t5.2.2.2.2.2.2.2.1, t5.2.2.2.2.2.2.2.2)
noncomputable def L_impl_inBounds_5 {R : Type} (k0 : (Int × Bool × List E_s_Key × Int × Int × List E_i64 × List E_Node) → Option R) (k1 : (Int × List E_s_Key × Int × Int × List E_i64 × List E_Node) → Option R) (t : T_impl_inBounds_5) : Option R := iter (S_impl_inBounds_5 k0 k1) FUEL t
abbrev T_impl_inBounds_2 : Type := Int × List E_s_Key × Int × Int × List E_i64 × List E_Node
noncomputable def S_impl_inBounds_2 {R : Type} (k0 : Bool → Option R) (k1 : Unit → Option R) (again : T_impl_inBounds_2 → Option R) (t2 : T_impl_inBounds_2) : Option R :=
  bif (decide (t2.2.2.2.1 < t2.2.2.1)) then if (0 : Int) ≤ t2.2.2.2.1 then if t2.2.2.2.1 < ((List.length t2.2.1 : Nat) : Int) then L_impl_inBounds_5 (fun x4 => k0 x4.2.1) (fun x5 => again (x5.1, x5.2.1, x5.2.2.1, (Go.IntKind.wrap .i64 (x5.2.2.2.1 + (1 : Int))), x5.2.2.2.2.1, x5.2.2.2.2.2)) (t2.1, t2.2.1, t2.2.2.1, t2.2.2.2.1, (rd_s_Key t2.2.1 t2.2.2.2.1), ((List.length (rd_s_Key t2.2.1 t2.2.2.2.1) : Nat) : Int), (0 : Int), t2.2.2.2.2.1, t2.2.2.2.2.2) else none else none else k1 ()
noncomputable def L_impl_inBounds_2 {R : Type} (k0 : Bool → Option R) (k1 : Unit → Option R) (t : T_impl_inBounds_2) : Option R := iter (S_impl_inBounds_2 k0 k1) FUEL t
noncomputable def F_impl_inBounds (x : List E_i64 × List E_Node × Int) : Option (Bool) :=
  if (0 : Int) ≤ x.2.2 then if x.2.2 < ((List.length x.2.1 : Nat) : Int) then L_impl_inBounds_2 (fun x6 => some x6) (fun x7 => some true) (x.2.2, (rd_Node x.2.1 x.2.2), ((List.length (rd_Node x.2.1 x.2.2) : Nat) : Int), (0 : Int), x.1, x.2.1) else none else none
noncomputable def f184B : Code := match Tryz.f184.body with
  | some c => c
  | none => .skip
noncomputable def f184K : C.Sem := tab [⟨226, F_impl_SpotOf⟩]
def f184h5_0 : List Sh := [.dead, .v (.int .i64), .box 2 0, .dead, .dead, .dead, .dead, .dead, .dead, .dead, .dead, .dead, .dead, .dead, .dead, .v (.sl 99 ts_s_Key), .v (.int .i64), .v (.int .i64), .dead, .dead, .dead, .v (.sl 105 ts_Key), .v (.int .i64), .v (.int .i64), .dead, .dead, .dead, .dead, .dead, .dead, .dead, .dead, .dead, .dead, .dead, .dead, .dead, .dead, .dead, .dead, .dead, .dead, .dead, .dead, .dead, .dead, .dead, .dead, .dead, .dead, .dead, .dead, .dead, .dead, .dead, .dead, .dead, .dead, .dead]
def f184o5_0 : List (Nat × OSh) := [(2, .box [.v (.sl 3 ts_i64), .v (.sl 97 ts_Node)])]
def f184e5_0 (t : Int × List E_s_Key × Int × Int × List E_Key × Int × Int × List E_i64 × List E_Node) : St := ⟨[.dead, .val (.int .i64) t.1, .box 2 0, .dead, .dead, .dead, .dead, .dead, .dead, .dead, .dead, .dead, .dead, .dead, .dead, .val (.sl 99 ts_s_Key) t.2.1, .val (.int .i64) t.2.2.1, .val (.int .i64) t.2.2.2.1, .dead, .dead, .dead, .val (.sl 105 ts_Key) t.2.2.2.2.1, .val (.int .i64) t.2.2.2.2.2.1, .val (.int .i64) t.2.2.2.2.2.2.1, .dead, .dead, .dead, .dead, .dead, .dead, .dead, .dead, .dead, .dead, .dead, .dead, .dead, .dead, .dead, .dead, .dead, .dead, .dead, .dead, .dead, .dead, .dead, .dead, .dead, .dead, .dead, .dead, .dead, .dead, .dead, .dead, .dead, .dead, .dead], [(2, .box [.val (.sl 3 ts_i64) t.2.2.2.2.2.2.2.1, .val (.sl 97 ts_Node) t.2.2.2.2.2.2.2.2])]⟩
def f184x5_0 (t : Int × Bool × List E_s_Key × Int × Int × List E_i64 × List E_Node) : St := ⟨[.dead, .val (.int .i64) t.1, .box 2 0, .dead, .val .bool t.2.1, .dead, .dead, .dead, .dead, .dead, .dead, .dead, .dead, .dead, .dead, .val (.sl 99 ts_s_Key) t.2.2.1, .val (.int .i64) t.2.2.2.1, .val (.int .i64) t.2.2.2.2.1, .dead, .dead, .dead, .dead, .dead, .dead, .dead, .dead, .dead, .dead, .dead, .dead, .dead, .dead, .dead, .dead, .dead, .dead, .dead, .dead, .dead, .dead, .dead, .dead, .dead, .dead, .dead, .dead, .dead, .dead, .dead, .dead, .dead, .dead, .dead, .dead, .dead, .dead, .dead, .dead, .dead], [(2, .box [.val (.sl 3 ts_i64) t.2.2.2.2.2.1, .val (.sl 97 ts_Node) t.2.2.2.2.2.2])]⟩
def f184x5_1 (t : Int × List E_s_Key × Int × Int × List E_i64 × List E_Node) : St := ⟨[.dead, .val (.int .i64) t.1, .box 2 0, .dead, .dead, .dead, .dead, .dead, .dead, .dead, .dead, .dead, .dead, .dead, .dead, .val (.sl 99 ts_s_Key) t.2.1, .val (.int .i64) t.2.2.1, .val (.int .i64) t.2.2.2.1, .dead, .dead, .dead, .dead, .dead, .dead, .dead, .dead, .dead, .dead, .dead, .dead, .dead, .dead, .dead, .dead, .dead, .dead, .dead, .dead, .dead, .dead, .dead, .dead, .dead, .dead, .dead, .dead, .dead, .dead, .dead, .dead, .dead, .dead, .dead, .dead, .dead, .dead, .dead, .dead, .dead], [(2, .box [.val (.sl 3 ts_i64) t.2.2.2.2.1, .val (.sl 97 ts_Node) t.2.2.2.2.2])]⟩
def f184u5_0 (s : St) : Option (Int × List E_s_Key × Int × Int × List E_Key × Int × Int × List E_i64 × List E_Node) := (unS f184h5_0 f184o5_0 s).map fun v => (v.1.2.1, v.1.2.2.2.2.2.2.2.2.2.2.2.2.2.2.2.1, v.1.2.2.2.2.2.2.2.2.2.2.2.2.2.2.2.2.1, v.1.2.2.2.2.2.2.2.2.2.2.2.2.2.2.2.2.2.1, v.1.2.2.2.2.2.2.2.2.2.2.2.2.2.2.2.2.2.2.2.2.2.1, v.1.2.2.2.2.2.2.2.2.2.2.2.2.2.2.2.2.2.2.2.2.2.2.1, v.1.2.2.2.2.2.2.2.2.2.2.2.2.2.2.2.2.2.2.2.2.2.2.2.1, v.2.1.1, v.2.1.2.1)
theorem f184un5_0 : ∀ (s : St) (t : Int × List E_s_Key × Int × Int × List E_Key × Int × Int × List E_i64 × List E_Node), f184u5_0 s = some t → f184e5_0 t = s := fun s v h => by
  obtain ⟨u, hu, rfl⟩ := Option.map_eq_some_iff.1 h
  exact (show f184e5_0 (u.1.2.1, u.1.2.2.2.2.2.2.2.2.2.2.2.2.2.2.2.1, u.1.2.2.2.2.2.2.2.2.2.2.2.2.2.2.2.2.1, u.1.2.2.2.2.2.2.2.2.2.2.2.2.2.2.2.2.2.1, u.1.2.2.2.2.2.2.2.2.2.2.2.2.2.2.2.2.2.2.2.2.2.1, u.1.2.2.2.2.2.2.2.2.2.2.2.2.2.2.2.2.2.2.2.2.2.2.1, u.1.2.2.2.2.2.2.2.2.2.2.2.2.2.2.2.2.2.2.2.2.2.2.2.1, u.2.1.1, u.2.1.2.1) = mkS f184h5_0 f184o5_0 u by kernel_rfl).trans (mkS_un f184h5_0 f184o5_0 s u hu)
def f184u5 : St → Option (Int × List E_s_Key × Int × Int × List E_Key × Int × Int × List E_i64 × List E_Node) := f184u5_0
def f184e5 : (Int × List E_s_Key × Int × Int × List E_Key × Int × Int × List E_i64 × List E_Node) → St := f184e5_0
theorem f184un5 : ∀ (s : St) (t : Int × List E_s_Key × Int × Int × List E_Key × Int × Int × List E_i64 × List E_Node), f184u5 s = some t → f184e5 t = s := f184un5_0
def f184h2_0 : List Sh := [.dead, .v (.int .i64), .box 2 0, .dead, .dead, .dead, .dead, .dead, .dead, .dead, .dead, .dead, .dead, .dead, .dead, .v (.sl 99 ts_s_Key), .v (.int .i64), .v (.int .i64), .dead, .dead, .dead, .dead, .dead, .dead, .dead, .dead, .dead, .dead, .dead, .dead, .dead, .dead, .dead, .dead, .dead, .dead, .dead, .dead, .dead, .dead, .dead, .dead, .dead, .dead, .dead, .dead, .dead, .dead, .dead, .dead, .dead, .dead, .dead, .dead, .dead, .dead, .dead, .dead, .dead]
def f184o2_0 : List (Nat × OSh) := [(2, .box [.v (.sl 3 ts_i64), .v (.sl 97 ts_Node)])]
def f184e2_0 (t : Int × List E_s_Key × Int × Int × List E_i64 × List E_Node) : St := ⟨[.dead, .val (.int .i64) t.1, .box 2 0, .dead, .dead, .dead, .dead, .dead, .dead, .dead, .dead, .dead, .dead, .dead, .dead, .val (.sl 99 ts_s_Key) t.2.1, .val (.int .i64) t.2.2.1, .val (.int .i64) t.2.2.2.1, .dead, .dead, .dead, .dead, .dead, .dead, .dead, .dead, .dead, .dead, .dead, .dead, .dead, .dead, .dead, .dead, .dead, .dead, .dead, .dead, .dead, .dead, .dead, .dead, .dead, .dead, .dead, .dead, .dead, .dead, .dead, .dead, .dead, .dead, .dead, .dead, .dead, .dead, .dead, .dead, .dead], [(2, .box [.val (.sl 3 ts_i64) t.2.2.2.2.1, .val (.sl 97 ts_Node) t.2.2.2.2.2])]⟩
def f184x2_0 (t : Bool) : St := ⟨[.dead, .dead, .dead, .dead, .val .bool t, .dead, .dead, .dead, .dead, .dead, .dead, .dead, .dead, .dead, .dead, .dead, .dead, .dead, .dead, .dead, .dead, .dead, .dead, .dead, .dead, .dead, .dead, .dead, .dead, .dead, .dead, .dead, .dead, .dead, .dead, .dead, .dead, .dead, .dead, .dead, .dead, .dead, .dead, .dead, .dead, .dead, .dead, .dead, .dead, .dead, .dead, .dead, .dead, .dead, .dead, .dead, .dead, .dead, .dead], []⟩
def f184x2_1 (t : Unit) : St := ⟨[.dead, .dead, .dead, .dead, .dead, .dead, .dead, .dead, .dead, .dead, .dead, .dead, .dead, .dead, .dead, .dead, .dead, .dead, .dead, .dead, .dead, .dead, .dead, .dead, .dead, .dead, .dead, .dead, .dead, .dead, .dead, .dead, .dead, .dead, .dead, .dead, .dead, .dead, .dead, .dead, .dead, .dead, .dead, .dead, .dead, .dead, .dead, .dead, .dead, .dead, .dead, .dead, .dead, .dead, .dead, .dead, .dead, .dead, .dead], []⟩
def f184u2_0 (s : St) : Option (Int × List E_s_Key × Int × Int × List E_i64 × List E_Node) := (unS f184h2_0 f184o2_0 s).map fun v => (v.1.2.1, v.1.2.2.2.2.2.2.2.2.2.2.2.2.2.2.2.1, v.1.2.2.2.2.2.2.2.2.2.2.2.2.2.2.2.2.1, v.1.2.2.2.2.2.2.2.2.2.2.2.2.2.2.2.2.2.1, v.2.1.1, v.2.1.2.1)
theorem f184un2_0 : ∀ (s : St) (t : Int × List E_s_Key × Int × Int × List E_i64 × List E_Node), f184u2_0 s = some t → f184e2_0 t = s := fun s v h => by
  obtain ⟨u, hu, rfl⟩ := Option.map_eq_some_iff.1 h
  exact (show f184e2_0 (u.1.2.1, u.1.2.2.2.2.2.2.2.2.2.2.2.2.2.2.2.1, u.1.2.2.2.2.2.2.2.2.2.2.2.2.2.2.2.2.1, u.1.2.2.2.2.2.2.2.2.2.2.2.2.2.2.2.2.2.1, u.2.1.1, u.2.1.2.1) = mkS f184h2_0 f184o2_0 u by kernel_rfl).trans (mkS_un f184h2_0 f184o2_0 s u hu)
def f184u2 : St → Option (Int × List E_s_Key × Int × Int × List E_i64 × List E_Node) := f184u2_0
def f184e2 : (Int × List E_s_Key × Int × Int × List E_i64 × List E_Node) → St := f184e2_0
theorem f184un2 : ∀ (s : St) (t : Int × List E_s_Key × Int × Int × List E_i64 × List E_Node), f184u2 s = some t → f184e2 t = s := f184un2_0
noncomputable def f184P : Lp := fun i s {_R} κ => bif Nat.beq i 2 then (f184u2 s).bind fun t => L_impl_inBounds_2 (fun t => κ (none) (f184x2_0 t)) (fun t => κ (some 0) (f184x2_1 t)) t else bif Nat.beq i 5 then (f184u5 s).bind fun t => L_impl_inBounds_5 (fun t => κ (none) (f184x5_0 t)) (fun t => κ (some 2) (f184x5_1 t)) t else none
noncomputable def f184c5 : Code := (loopsOf f184B).getD 1 .skip
theorem f184A5 : C.live 184 (firstRegion f184c5) = some ([1, 2, 15, 16, 17, 21, 22, 23, 40, 41, 42, 43, 44, 45, 46, 47, 48, 49, 50, 51, 52, 53, 54, 55], [1, 2, 4, 15, 16, 17, 40, 41, 42, 43, 44, 45, 46, 47, 48, 49, 50, 51, 52, 53, 54, 55]) := by kernel_rfl
theorem f184B5 {R : Type} (κ : Option Nat → St → Option R) (s : St) : f184P (firstRegion f184c5) s κ = (f184u5 s).bind fun t => iter (S_impl_inBounds_5 (fun t => κ (none) (f184x5_0 t)) (fun t => κ (some 2) (f184x5_1 t))) FUEL t := by kernel_rfl
theorem f184C5 {R : Type} (κ : Option Nat → St → Option R) (again : St → Option R) (t : T_impl_inBounds_5) : stepL C f184K f184P 184 f184c5 [1, 2, 15, 16, 17, 21, 22, 23, 40, 41, 42, 43, 44, 45, 46, 47, 48, 49, 50, 51, 52, 53, 54, 55] [1, 2, 4, 15, 16, 17, 40, 41, 42, 43, 44, 45, 46, 47, 48, 49, 50, 51, 52, 53, 54, 55] κ again (f184e5 t) = S_impl_inBounds_5 (fun t => κ (none) (f184x5_0 t)) (fun t => κ (some 2) (f184x5_1 t)) (fun t => again (f184e5 t)) t := by kernel_rfl
theorem f184ok5 : LoopOk C f184K f184P 184 f184c5 := loop_ok f184A5 f184e5 f184u5 f184un5 (fun {_R} κ => S_impl_inBounds_5 (fun t => κ (none) (f184x5_0 t)) (fun t => κ (some 2) (f184x5_1 t))) (fun {_R} κ s => f184B5 κ s) (fun {_R} κ again t => f184C5 κ again t)
noncomputable def f184c2 : Code := (loopsOf f184B).getD 0 .skip
theorem f184A2 : C.live 184 (firstRegion f184c2) = some ([1, 2, 15, 16, 17, 40, 41, 42, 43, 44, 45, 46, 47, 48, 49, 50, 51, 52, 53, 54, 55], [4]) := by kernel_rfl
theorem f184B2 {R : Type} (κ : Option Nat → St → Option R) (s : St) : f184P (firstRegion f184c2) s κ = (f184u2 s).bind fun t => iter (S_impl_inBounds_2 (fun t => κ (none) (f184x2_0 t)) (fun t => κ (some 0) (f184x2_1 t))) FUEL t := by kernel_rfl
theorem f184C2 {R : Type} (κ : Option Nat → St → Option R) (again : St → Option R) (t : T_impl_inBounds_2) : stepL C f184K f184P 184 f184c2 [1, 2, 15, 16, 17, 40, 41, 42, 43, 44, 45, 46, 47, 48, 49, 50, 51, 52, 53, 54, 55] [4] κ again (f184e2 t) = S_impl_inBounds_2 (fun t => κ (none) (f184x2_0 t)) (fun t => κ (some 0) (f184x2_1 t)) (fun t => again (f184e2 t)) t := by kernel_rfl
theorem f184ok2 : LoopOk C f184K f184P 184 f184c2 := loop_ok f184A2 f184e2 f184u2 f184un2 (fun {_R} κ => S_impl_inBounds_2 (fun t => κ (none) (f184x2_0 t)) (fun t => κ (some 0) (f184x2_1 t))) (fun {_R} κ s => f184B2 κ s) (fun {_R} κ again t => f184C2 κ again t)
theorem k184 : Contract C Tryz.prog f184K := contract_tab _ (fun p hp => by
    simp only [List.mem_cons, List.mem_nil_iff, or_false] at hp
    rcases hp with rfl
    · exact ok226)
theorem ev184 (x : List E_i64 × List E_Node × Int) : evalB C f184K f184P 184 Tryz.f184 f184B ⟨[.v true [(.sl 3 ts_i64), (.sl 97 ts_Node)] [false, false], .v false [(.int .i64)] [false]], [⟨false, [.bool], [false]⟩], false⟩ [(.sl 3 ts_i64), (.sl 97 ts_Node), (.int .i64)] [.bool] x = F_impl_inBounds x := by kernel_rfl
theorem ok184 : ContractAt C Tryz.prog 184 F_impl_inBounds := fn_sound (lp := f184P) tok mixed k184 (by kernel_rfl) (fn := Tryz.f184) (c := f184B) (sg := ⟨[.v true [(.sl 3 ts_i64), (.sl 97 ts_Node)] [false, false], .v false [(.int .i64)] [false]], [⟨false, [.bool], [false]⟩], false⟩) Tryz.func184 (by decide) (by kernel_rfl) (by kernel_rfl) (by kernel_rfl) (fun c' hc' => by
    rw [show loopsOf f184B = [f184c2, f184c5] by kernel_rfl] at hc'
    simp only [List.mem_cons, List.mem_nil_iff, or_false] at hc'
    rcases hc' with rfl | rfl
    · exact f184ok2
    · exact f184ok5) (by decide) (by decide) (fun x y h => (ev184 x).trans h)
noncomputable def F_impl_copyKeys (x : List E_Key) : Option (List E_Key) :=
  if (List.length ([] : List E_Key) + List.length x) * 40 < 140737488355328 then some (([] : List E_Key) ++ x) else none
noncomputable def f261B : Code := match Tryz.f261.body with
  | some c => c
  | none => .skip
noncomputable def f261K : C.Sem := tab []
noncomputable def f261P : Lp := fun i s {_R} κ => none
theorem k261 : Contract C Tryz.prog f261K := contract_tab _ (fun p hp => by cases hp)
theorem ev261 (x : List E_Key) : evalB C f261K f261P 261 Tryz.f261 f261B ⟨[.v false [(.sl 105 ts_Key)] [false]], [⟨false, [(.sl 105 ts_Key)], [true]⟩], false⟩ [(.sl 105 ts_Key)] [(.sl 105 ts_Key)] x = F_impl_copyKeys x := by kernel_rfl
theorem ok261 : ContractAt C Tryz.prog 261 F_impl_copyKeys := fn_sound (lp := f261P) tok mixed k261 (by kernel_rfl) (fn := Tryz.f261) (c := f261B) (sg := ⟨[.v false [(.sl 105 ts_Key)] [false]], [⟨false, [(.sl 105 ts_Key)], [true]⟩], false⟩) Tryz.func261 (by decide) (by kernel_rfl) (by kernel_rfl) (by kernel_rfl) (fun c' hc' => by
    rw [show loopsOf f261B = [] by kernel_rfl] at hc'
    cases hc') (by decide) (by decide) (fun x y h => (ev261 x).trans h)
noncomputable def F_impl_SameSpot (x : Int × Int × Int × Int × Int × Int × Int × Int × Int × Int) : Option (Bool) :=
  Option.bind (bif (x.1 == x.2.2.2.2.2.1) then some (x.2.1 == x.2.2.2.2.2.2.1) else some false) fun u1 => some u1
noncomputable def f280B : Code := match Tryz.f280.body with
  | some c => c
  | none => .skip
noncomputable def f280K : C.Sem := tab []
noncomputable def f280P : Lp := fun i s {_R} κ => none
theorem k280 : Contract C Tryz.prog f280K := contract_tab _ (fun p hp => by cases hp)
theorem ev280 (x : Int × Int × Int × Int × Int × Int × Int × Int × Int × Int) : evalB C f280K f280P 280 Tryz.f280 f280B ⟨[.v true [(.int .i64), (.int .i64), (.int .i64), (.int .i64), (.int .i64)] [false, false, false, false, false], .v true [(.int .i64), (.int .i64), (.int .i64), (.int .i64), (.int .i64)] [false, false, false, false, false]], [⟨false, [.bool], [false]⟩], false⟩ [(.int .i64), (.int .i64), (.int .i64), (.int .i64), (.int .i64), (.int .i64), (.int .i64), (.int .i64), (.int .i64), (.int .i64)] [.bool] x = F_impl_SameSpot x := by kernel_rfl
theorem ok280 : ContractAt C Tryz.prog 280 F_impl_SameSpot := fn_sound (lp := f280P) tok mixed k280 (by kernel_rfl) (fn := Tryz.f280) (c := f280B) (sg := ⟨[.v true [(.int .i64), (.int .i64), (.int .i64), (.int .i64), (.int .i64)] [false, false, false, false, false], .v true [(.int .i64), (.int .i64), (.int .i64), (.int .i64), (.int .i64)] [false, false, false, false, false]], [⟨false, [.bool], [false]⟩], false⟩) Tryz.func280 (by decide) (by kernel_rfl) (by kernel_rfl) (by kernel_rfl) (fun c' hc' => by
    rw [show loopsOf f280B = [] by kernel_rfl] at hc'
    cases hc') (by decide) (by decide) (fun x y h => (ev280 x).trans h)
abbrev T_impl_SetPut_4 : Type := Bool × List E_Key × Int × Int × Int × Int × Int × Int × Int × List E_Key
noncomputable def S_impl_SetPut_4 {R : Type} (k0 : (Bool × Int × Int × Int × Int × Int × List E_Key) → Option R) (again : T_impl_SetPut_4 → Option R) (t4 : T_impl_SetPut_4) : Option R :=
  bif (decide (t4.2.2.2.1 < t4.2.2.1)) then if (0 : Int) ≤ t4.2.2.2.1 then if t4.2.2.2.1 < ((List.length t4.2.1 : Nat) : Int) then Option.bind (bif (!t4.1) then Option.bind (F_impl_LessKey ((rd_Key t4.2.1 t4.2.2.2.1).1, (rd_Key t4.2.1 t4.2.2.2.1).2.1, (rd_Key t4.2.1 t4.2.2.2.1).2.2.1, (rd_Key t4.2.1 t4.2.2.2.1).2.2.2.1, (rd_Key t4.2.1 t4.2.2.2.1).2.2.2.2, t4.2.2.2.2.1, t4.2.2.2.2.2.1, t4.2.2.2.2.2.2.1, t4.2.2.2.2.2.2.2.1, t4.2.2.2.2.2.2.2.2.1)) fun r2 => some (!r2) else some false) fun u1 => bif u1 then if (List.length t4.2.2.2.2.2.2.2.2.2 + List.length ([(t4.2.2.2.2.1, t4.2.2.2.2.2.1, t4.2.2.2.2.2.2.1, t4.2.2.2.2.2.2.2.1, t4.2.2.2.2.2.2.2.2.1)] : List E_Key)) * 40 < 140737488355328 then Option.bind (F_impl_SameSpot ((rd_Key t4.2.1 t4.2.2.2.1).1, (rd_Key t4.2.1 t4.2.2.2.1).2.1, (rd_Key t4.2.1 t4.2.2.2.1).2.2.1, (rd_Key t4.2.1 t4.2.2.2.1).2.2.2.1, (rd_Key t4.2.1 t4.2.2.2.1).2.2.2.2, t4.2.2.2.2.1, t4.2.2.2.2.2.1, t4.2.2.2.2.2.2.1, t4.2.2.2.2.2.2.2.1, t4.2.2.2.2.2.2.2.2.1)) fun r3 => bif (!r3) then if (List.length (t4.2.2.2.2.2.2.2.2.2 ++ ([(t4.2.2.2.2.1, t4.2.2.2.2.2.1, t4.2.2.2.2.2.2.1, t4.2.2.2.2.2.2.2.1, t4.2.2.2.2.2.2.2.2.1)] : List E_Key)) + List.length ([((rd_Key t4.2.1 t4.2.2.2.1).1, (rd_Key t4.2.1 t4.2.2.2.1).2.1, (rd_Key t4.2.1 t4.2.2.2.1).2.2.1, (rd_Key t4.2.1 t4.2.2.2.1).2.2.2.1, (rd_Key t4.2.1 t4.2.2.2.1).2.2.2.2)] : List E_Key)) * 40 < 140737488355328 then again (true, t4.2.1, t4.2.2.1, (Go.IntKind.wrap .i64 (t4.2.2.2.1 + (1 : Int))), t4.2.2.2.2.1, t4.2.2.2.2.2.1, t4.2.2.2.2.2.2.1, t4.2.2.2.2.2.2.2.1, t4.2.2.2.2.2.2.2.2.1, ((t4.2.2.2.2.2.2.2.2.2 ++ ([(t4.2.2.2.2.1, t4.2.2.2.2.2.1, t4.2.2.2.2.2.2.1, t4.2.2.2.2.2.2.2.1, t4.2.2.2.2.2.2.2.2.1)] : List E_Key)) ++ ([((rd_Key t4.2.1 t4.2.2.2.1).1, (rd_Key t4.2.1 t4.2.2.2.1).2.1, (rd_Key t4.2.1 t4.2.2.2.1).2.2.1, (rd_Key t4.2.1 t4.2.2.2.1).2.2.2.1, (rd_Key t4.2.1 t4.2.2.2.1).2.2.2.2)] : List E_Key))) else none else again (true, t4.2.1, t4.2.2.1, (Go.IntKind.wrap .i64 (t4.2.2.2.1 + (1 : Int))), t4.2.2.2.2.1, t4.2.2.2.2.2.1, t4.2.2.2.2.2.2.1, t4.2.2.2.2.2.2.2.1, t4.2.2.2.2.2.2.2.2.1, (t4.2.2.2.2.2.2.2.2.2 ++ ([(t4.2.2.2.2.1, t4.2.2.2.2.2.1, t4.2.2.2.2.2.2.1, t4.2.2.2.2.2.2.2.1, t4.2.2.2.2.2.2.2.2.1)] : List E_Key))) else none else Option.bind (F_impl_SameSpot ((rd_Key t4.2.1 t4.2.2.2.1).1, (rd_Key t4.2.1 t4.2.2.2.1).2.1, (rd_Key t4.2.1 t4.2.2.2.1).2.2.1, (rd_Key t4.2.1 t4.2.2.2.1).2.2.2.1, (rd_Key t4.2.1 t4.2.2.2.1).2.2.2.2, t4.2.2.2.2.1, t4.2.2.2.2.2.1, t4.2.2.2.2.2.2.1, t4.2.2.2.2.2.2.2.1, t4.2.2.2.2.2.2.2.2.1)) fun r4 => bif (!r4) then if (List.length t4.2.2.2.2.2.2.2.2.2 + List.length ([((rd_Key t4.2.1 t4.2.2.2.1).1, (rd_Key t4.2.1 t4.2.2.2.1).2.1, (rd_Key t4.2.1 t4.2.2.2.1).2.2.1, (rd_Key t4.2.1 t4.2.2.2.1).2.2.2.1, (rd_Key t4.2.1 t4.2.2.2.1).2.2.2.2)] : List E_Key)) * 40 < 140737488355328 then again (t4.1, t4.2.1, t4.2.2.1, (Go.IntKind.wrap .i64 (t4.2.2.2.1 + (1 : Int))), t4.2.2.2.2.1, t4.2.2.2.2.2.1, t4.2.2.2.2.2.2.1, t4.2.2.2.2.2.2.2.1, t4.2.2.2.2.2.2.2.2.1, (t4.2.2.2.2.2.2.2.2.2 ++ ([((rd_Key t4.2.1 t4.2.2.2.1).1, (rd_Key t4.2.1 t4.2.2.2.1).2.1, (rd_Key t4.2.1 t4.2.2.2.1).2.2.1, (rd_Key t4.2.1 t4.2.2.2.1).2.2.2.1, (rd_Key t4.2.1 t4.2.2.2.1).2.2.2.2)] : List E_Key))) else none else again (t4.1, t4.2.1, t4.2.2.1, (Go.IntKind.wrap .i64 (t4.2.2.2.1 + (1 : Int))), t4.2.2.2.2.1, t4.2.2.2.2.2.1, t4.2.2.2.2.2.2.1, t4.2.2.2.2.2.2.2.1, t4.2.2.2.2.2.2.2.2.1, t4.2.2.2.2.2.2.2.2.2) else none else none else k0 (t4.1, t4.2.2.2.2.1, t4.2.2.2.2.2.1, t4.2.2.2.2.2.2.1, t4.2.2.2.2.2.2.2.1, t4.2.2.2.2.2.2.2.2.1, t4.2.2.2.2.2.2.2.2.2)
noncomputable def L_impl_SetPut_4 {R : Type} (k0 : (Bool × Int × Int × Int × Int × Int × List E_Key) → Option R) (t : T_impl_SetPut_4) : Option R := iter (S_impl_SetPut_4 k0) FUEL t
noncomputable def F_impl_SetPut (x : List E_Key × Int × Int × Int × Int × Int) : Option (List E_Key) :=
  L_impl_SetPut_4 (fun x5 => bif (!x5.1) then if (List.length x5.2.2.2.2.2.2 + List.length ([(x5.2.1, x5.2.2.1, x5.2.2.2.1, x5.2.2.2.2.1, x5.2.2.2.2.2.1)] : List E_Key)) * 40 < 140737488355328 then some (x5.2.2.2.2.2.2 ++ ([(x5.2.1, x5.2.2.1, x5.2.2.2.1, x5.2.2.2.2.1, x5.2.2.2.2.2.1)] : List E_Key)) else none else some x5.2.2.2.2.2.2) (false, x.1, ((List.length x.1 : Nat) : Int), (0 : Int), x.2.1, x.2.2.1, x.2.2.2.1, x.2.2.2.2.1, x.2.2.2.2.2, ([] : List E_Key))
noncomputable def f262B : Code := match Tryz.f262.body with
  | some c => c
  | none => .skip
noncomputable def f262K : C.Sem := tab [⟨260, F_impl_LessKey⟩, ⟨280, F_impl_SameSpot⟩]
def f262h4_0 : List Sh := [.dead, .dead, .dead, .box 3 0, .dead, .own 10000000, .v .bool, .dead, .dead, .dead, .v (.sl 105 ts_Key), .v (.int .i64), .v (.int .i64), .dead, .dead, .dead, .dead, .dead, .dead, .dead, .dead, .dead, .dead, .dead, .dead, .dead, .dead, .dead, .dead, .dead, .dead, .dead, .dead, .dead, .dead, .dead, .dead, .dead, .dead, .dead, .dead, .dead, .dead, .dead]
def f262o4_0 : List (Nat × OSh) := [(3, .box [.v (.int .i64), .v (.int .i64), .v (.int .i64), .v (.int .i64), .v (.int .i64)]), (10000000, .root true 105 ts_Key)]
def f262e4_0 (t : Bool × List E_Key × Int × Int × Int × Int × Int × Int × Int × List E_Key) : St := ⟨[.dead, .dead, .dead, .box 3 0, .dead, .own 10000000, .val .bool t.1, .dead, .dead, .dead, .val (.sl 105 ts_Key) t.2.1, .val (.int .i64) t.2.2.1, .val (.int .i64) t.2.2.2.1, .dead, .dead, .dead, .dead, .dead, .dead, .dead, .dead, .dead, .dead, .dead, .dead, .dead, .dead, .dead, .dead, .dead, .dead, .dead, .dead, .dead, .dead, .dead, .dead, .dead, .dead, .dead, .dead, .dead, .dead, .dead], [(3, .box [.val (.int .i64) t.2.2.2.2.1, .val (.int .i64) t.2.2.2.2.2.1, .val (.int .i64) t.2.2.2.2.2.2.1, .val (.int .i64) t.2.2.2.2.2.2.2.1, .val (.int .i64) t.2.2.2.2.2.2.2.2.1]), (10000000, .root true 105 ts_Key t.2.2.2.2.2.2.2.2.2)]⟩
def f262x4_0 (t : Bool × Int × Int × Int × Int × Int × List E_Key) : St := ⟨[.dead, .dead, .dead, .box 3 0, .dead, .own 10000000, .val .bool t.1, .dead, .dead, .dead, .dead, .dead, .dead, .dead, .dead, .dead, .dead, .dead, .dead, .dead, .dead, .dead, .dead, .dead, .dead, .dead, .dead, .dead, .dead, .dead, .dead, .dead, .dead, .dead, .dead, .dead, .dead, .dead, .dead, .dead, .dead, .dead, .dead, .dead], [(3, .box [.val (.int .i64) t.2.1, .val (.int .i64) t.2.2.1, .val (.int .i64) t.2.2.2.1, .val (.int .i64) t.2.2.2.2.1, .val (.int .i64) t.2.2.2.2.2.1]), (10000000, .root true 105 ts_Key t.2.2.2.2.2.2)]⟩
def f262u4_0 (s : St) : Option (Bool × List E_Key × Int × Int × Int × Int × Int × Int × Int × List E_Key) := (unS f262h4_0 f262o4_0 s).map fun v => (v.1.2.2.2.2.2.2.1, v.1.2.2.2.2.2.2.2.2.2.2.1, v.1.2.2.2.2.2.2.2.2.2.2.2.1, v.1.2.2.2.2.2.2.2.2.2.2.2.2.1, v.2.1.1, v.2.1.2.1, v.2.1.2.2.1, v.2.1.2.2.2.1, v.2.1.2.2.2.2.1, v.2.2.1)
theorem f262un4_0 : ∀ (s : St) (t : Bool × List E_Key × Int × Int × Int × Int × Int × Int × Int × List E_Key), f262u4_0 s = some t → f262e4_0 t = s := fun s v h => by
  obtain ⟨u, hu, rfl⟩ := Option.map_eq_some_iff.1 h
  exact (show f262e4_0 (u.1.2.2.2.2.2.2.1, u.1.2.2.2.2.2.2.2.2.2.2.1, u.1.2.2.2.2.2.2.2.2.2.2.2.1, u.1.2.2.2.2.2.2.2.2.2.2.2.2.1, u.2.1.1, u.2.1.2.1, u.2.1.2.2.1, u.2.1.2.2.2.1, u.2.1.2.2.2.2.1, u.2.2.1) = mkS f262h4_0 f262o4_0 u by kernel_rfl).trans (mkS_un f262h4_0 f262o4_0 s u hu)
def f262u4 : St → Option (Bool × List E_Key × Int × Int × Int × Int × Int × Int × Int × List E_Key) := f262u4_0
def f262e4 : (Bool × List E_Key × Int × Int × Int × Int × Int × Int × Int × List E_Key) → St := f262e4_0
theorem f262un4 : ∀ (s : St) (t : Bool × List E_Key × Int × Int × Int × Int × Int × Int × Int × List E_Key), f262u4 s = some t → f262e4 t = s := f262un4_0
noncomputable def f262P : Lp := fun i s {_R} κ => bif Nat.beq i 4 then (f262u4 s).bind fun t => L_impl_SetPut_4 (fun t => κ (some 0) (f262x4_0 t)) t else none
noncomputable def f262c4 : Code := (loopsOf f262B).getD 0 .skip
theorem f262A4 : C.live 262 (firstRegion f262c4) = some ([3, 5, 6, 10, 11, 12, 19, 20, 21, 22], [3, 5, 6]) := by kernel_rfl
theorem f262B4 {R : Type} (κ : Option Nat → St → Option R) (s : St) : f262P (firstRegion f262c4) s κ = (f262u4 s).bind fun t => iter (S_impl_SetPut_4 (fun t => κ (some 0) (f262x4_0 t))) FUEL t := by kernel_rfl
theorem f262C4 {R : Type} (κ : Option Nat → St → Option R) (again : St → Option R) (t : T_impl_SetPut_4) : stepL C f262K f262P 262 f262c4 [3, 5, 6, 10, 11, 12, 19, 20, 21, 22] [3, 5, 6] κ again (f262e4 t) = S_impl_SetPut_4 (fun t => κ (some 0) (f262x4_0 t)) (fun t => again (f262e4 t)) t := by kernel_rfl
theorem f262ok4 : LoopOk C f262K f262P 262 f262c4 := loop_ok f262A4 f262e4 f262u4 f262un4 (fun {_R} κ => S_impl_SetPut_4 (fun t => κ (some 0) (f262x4_0 t))) (fun {_R} κ s => f262B4 κ s) (fun {_R} κ again t => f262C4 κ again t)
theorem k262 : Contract C Tryz.prog f262K := contract_tab _ (fun p hp => by
    simp only [List.mem_cons, List.mem_nil_iff, or_false] at hp
    rcases hp with rfl | rfl
    · exact ok260
    · exact ok280)
theorem ev262 (x : List E_Key × Int × Int × Int × Int × Int) : evalB C f262K f262P 262 Tryz.f262 f262B ⟨[.v false [(.sl 105 ts_Key)] [false], .v true [(.int .i64), (.int .i64), (.int .i64), (.int .i64), (.int .i64)] [false, false, false, false, false]], [⟨false, [(.sl 105 ts_Key)], [true]⟩], false⟩ [(.sl 105 ts_Key), (.int .i64), (.int .i64), (.int .i64), (.int .i64), (.int .i64)] [(.sl 105 ts_Key)] x = F_impl_SetPut x := by kernel_rfl
theorem ok262 : ContractAt C Tryz.prog 262 F_impl_SetPut := fn_sound (lp := f262P) tok mixed k262 (by kernel_rfl) (fn := Tryz.f262) (c := f262B) (sg := ⟨[.v false [(.sl 105 ts_Key)] [false], .v true [(.int .i64), (.int .i64), (.int .i64), (.int .i64), (.int .i64)] [false, false, false, false, false]], [⟨false, [(.sl 105 ts_Key)], [true]⟩], false⟩) Tryz.func262 (by decide) (by kernel_rfl) (by kernel_rfl) (by kernel_rfl) (fun c' hc' => by
    rw [show loopsOf f262B = [f262c4] by kernel_rfl] at hc'
    simp only [List.mem_cons, List.mem_nil_iff, or_false] at hc'
    rcases hc' with rfl
    · exact f262ok4) (by decide) (by decide) (fun x y h => (ev262 x).trans h)
abbrev T_impl_MergeSets_3 : Type := List E_Key × Int × Int × List E_Key
noncomputable def S_impl_MergeSets_3 {R : Type} (k0 : List E_Key → Option R) (again : T_impl_MergeSets_3 → Option R) (t3 : T_impl_MergeSets_3) : Option R :=
  bif (decide (t3.2.2.1 < t3.2.1)) then if (0 : Int) ≤ t3.2.2.1 then if t3.2.2.1 < ((List.length t3.1 : Nat) : Int) then Option.bind (F_impl_SetPut (t3.2.2.2, (rd_Key t3.1 t3.2.2.1).1, (rd_Key t3.1 t3.2.2.1).2.1, (rd_Key t3.1 t3.2.2.1).2.2.1, (rd_Key t3.1 t3.2.2.1).2.2.2.1, (rd_Key t3.1 t3.2.2.1).2.2.2.2)) fun r2 => again (t3.1, t3.2.1, (Go.IntKind.wrap .i64 (t3.2.2.1 + (1 : Int))), r2) else none else none else k0 t3.2.2.2
noncomputable def L_impl_MergeSets_3 {R : Type} (k0 : List E_Key → Option R) (t : T_impl_MergeSets_3) : Option R := iter (S_impl_MergeSets_3 k0) FUEL t
noncomputable def F_impl_MergeSets (x : List E_Key × List E_Key) : Option (List E_Key) :=
  Option.bind (F_impl_copyKeys x.1) fun r1 => L_impl_MergeSets_3 (fun x3 => some x3) (x.2, ((List.length x.2 : Nat) : Int), (0 : Int), r1)
noncomputable def f227B : Code := match Tryz.f227.body with
  | some c => c
  | none => .skip
noncomputable def f227K : C.Sem := tab [⟨261, F_impl_copyKeys⟩, ⟨262, F_impl_SetPut⟩]
def f227h3_0 : List Sh := [.dead, .dead, .dead, .dead, .dead, .own 10000000, .dead, .dead, .dead, .dead, .v (.sl 105 ts_Key), .v (.int .i64), .v (.int .i64), .dead, .dead, .dead, .dead, .dead, .dead, .dead, .dead]
def f227o3_0 : List (Nat × OSh) := [(10000000, .root true 105 ts_Key)]
def f227e3_0 (t : List E_Key × Int × Int × List E_Key) : St := ⟨[.dead, .dead, .dead, .dead, .dead, .own 10000000, .dead, .dead, .dead, .dead, .val (.sl 105 ts_Key) t.1, .val (.int .i64) t.2.1, .val (.int .i64) t.2.2.1, .dead, .dead, .dead, .dead, .dead, .dead, .dead, .dead], [(10000000, .root true 105 ts_Key t.2.2.2)]⟩
def f227x3_0 (t : List E_Key) : St := ⟨[.dead, .dead, .dead, .dead, .dead, .own 10000000, .dead, .dead, .dead, .dead, .dead, .dead, .dead, .dead, .dead, .dead, .dead, .dead, .dead, .dead, .dead], [(10000000, .root true 105 ts_Key t)]⟩
def f227u3_0 (s : St) : Option (List E_Key × Int × Int × List E_Key) := (unS f227h3_0 f227o3_0 s).map fun v => (v.1.2.2.2.2.2.2.2.2.2.2.1, v.1.2.2.2.2.2.2.2.2.2.2.2.1, v.1.2.2.2.2.2.2.2.2.2.2.2.2.1, v.2.1)
theorem f227un3_0 : ∀ (s : St) (t : List E_Key × Int × Int × List E_Key), f227u3_0 s = some t → f227e3_0 t = s := fun s v h => by
  obtain ⟨u, hu, rfl⟩ := Option.map_eq_some_iff.1 h
  exact (show f227e3_0 (u.1.2.2.2.2.2.2.2.2.2.2.1, u.1.2.2.2.2.2.2.2.2.2.2.2.1, u.1.2.2.2.2.2.2.2.2.2.2.2.2.1, u.2.1) = mkS f227h3_0 f227o3_0 u by kernel_rfl).trans (mkS_un f227h3_0 f227o3_0 s u hu)
def f227u3 : St → Option (List E_Key × Int × Int × List E_Key) := f227u3_0
def f227e3 : (List E_Key × Int × Int × List E_Key) → St := f227e3_0
theorem f227un3 : ∀ (s : St) (t : List E_Key × Int × Int × List E_Key), f227u3 s = some t → f227e3 t = s := f227un3_0
noncomputable def f227P : Lp := fun i s {_R} κ => bif Nat.beq i 3 then (f227u3 s).bind fun t => L_impl_MergeSets_3 (fun t => κ (some 0) (f227x3_0 t)) t else none
noncomputable def f227c3 : Code := (loopsOf f227B).getD 0 .skip
theorem f227A3 : C.live 227 (firstRegion f227c3) = some ([5, 10, 11, 12], [5]) := by kernel_rfl
theorem f227B3 {R : Type} (κ : Option Nat → St → Option R) (s : St) : f227P (firstRegion f227c3) s κ = (f227u3 s).bind fun t => iter (S_impl_MergeSets_3 (fun t => κ (some 0) (f227x3_0 t))) FUEL t := by kernel_rfl
theorem f227C3 {R : Type} (κ : Option Nat → St → Option R) (again : St → Option R) (t : T_impl_MergeSets_3) : stepL C f227K f227P 227 f227c3 [5, 10, 11, 12] [5] κ again (f227e3 t) = S_impl_MergeSets_3 (fun t => κ (some 0) (f227x3_0 t)) (fun t => again (f227e3 t)) t := by kernel_rfl
theorem f227ok3 : LoopOk C f227K f227P 227 f227c3 := loop_ok f227A3 f227e3 f227u3 f227un3 (fun {_R} κ => S_impl_MergeSets_3 (fun t => κ (some 0) (f227x3_0 t))) (fun {_R} κ s => f227B3 κ s) (fun {_R} κ again t => f227C3 κ again t)
theorem k227 : Contract C Tryz.prog f227K := contract_tab _ (fun p hp => by
    simp only [List.mem_cons, List.mem_nil_iff, or_false] at hp
    rcases hp with rfl | rfl
    · exact ok261
    · exact ok262)
theorem ev227 (x : List E_Key × List E_Key) : evalB C f227K f227P 227 Tryz.f227 f227B ⟨[.v false [(.sl 105 ts_Key)] [false], .v false [(.sl 105 ts_Key)] [false]], [⟨false, [(.sl 105 ts_Key)], [true]⟩], false⟩ [(.sl 105 ts_Key), (.sl 105 ts_Key)] [(.sl 105 ts_Key)] x = F_impl_MergeSets x := by kernel_rfl
theorem ok227 : ContractAt C Tryz.prog 227 F_impl_MergeSets := fn_sound (lp := f227P) tok mixed k227 (by kernel_rfl) (fn := Tryz.f227) (c := f227B) (sg := ⟨[.v false [(.sl 105 ts_Key)] [false], .v false [(.sl 105 ts_Key)] [false]], [⟨false, [(.sl 105 ts_Key)], [true]⟩], false⟩) Tryz.func227 (by decide) (by kernel_rfl) (by kernel_rfl) (by kernel_rfl) (fun c' hc' => by
    rw [show loopsOf f227B = [f227c3] by kernel_rfl] at hc'
    simp only [List.mem_cons, List.mem_nil_iff, or_false] at hc'
    rcases hc' with rfl
    · exact f227ok3) (by decide) (by decide) (fun x y h => (ev227 x).trans h)
abbrev T_impl_Drop_3 : Type := List E_Key × Int × Int × List E_Key
noncomputable def S_impl_Drop_3 {R : Type} (k0 : List E_Key → Option R) (again : T_impl_Drop_3 → Option R) (t3 : T_impl_Drop_3) : Option R :=
  bif (decide (t3.2.2.1 < t3.2.1)) then if (0 : Int) ≤ t3.2.2.1 then if t3.2.2.1 < ((List.length t3.1 : Nat) : Int) then bif ((rd_Key t3.1 t3.2.2.1).2.2.1 != (0 : Int)) then if (List.length t3.2.2.2 + List.length ([((rd_Key t3.1 t3.2.2.1).1, (rd_Key t3.1 t3.2.2.1).2.1, (rd_Key t3.1 t3.2.2.1).2.2.1, (rd_Key t3.1 t3.2.2.1).2.2.2.1, (rd_Key t3.1 t3.2.2.1).2.2.2.2)] : List E_Key)) * 40 < 140737488355328 then again (t3.1, t3.2.1, (Go.IntKind.wrap .i64 (t3.2.2.1 + (1 : Int))), (t3.2.2.2 ++ ([((rd_Key t3.1 t3.2.2.1).1, (rd_Key t3.1 t3.2.2.1).2.1, (rd_Key t3.1 t3.2.2.1).2.2.1, (rd_Key t3.1 t3.2.2.1).2.2.2.1, (rd_Key t3.1 t3.2.2.1).2.2.2.2)] : List E_Key))) else none else again (t3.1, t3.2.1, (Go.IntKind.wrap .i64 (t3.2.2.1 + (1 : Int))), t3.2.2.2) else none else none else k0 t3.2.2.2
noncomputable def L_impl_Drop_3 {R : Type} (k0 : List E_Key → Option R) (t : T_impl_Drop_3) : Option R := iter (S_impl_Drop_3 k0) FUEL t
noncomputable def F_impl_Drop (x : List E_Key) : Option (List E_Key) :=
  L_impl_Drop_3 (fun x1 => some x1) (x, ((List.length x : Nat) : Int), (0 : Int), ([] : List E_Key))
noncomputable def f228B : Code := match Tryz.f228.body with
  | some c => c
  | none => .skip
noncomputable def f228K : C.Sem := tab []
def f228h3_0 : List Sh := [.dead, .dead, .dead, .own 10000000, .dead, .dead, .dead, .v (.sl 105 ts_Key), .v (.int .i64), .v (.int .i64), .dead, .dead, .dead, .dead, .dead, .dead, .dead, .dead, .dead, .dead, .dead, .dead]
def f228o3_0 : List (Nat × OSh) := [(10000000, .root true 105 ts_Key)]
def f228e3_0 (t : List E_Key × Int × Int × List E_Key) : St := ⟨[.dead, .dead, .dead, .own 10000000, .dead, .dead, .dead, .val (.sl 105 ts_Key) t.1, .val (.int .i64) t.2.1, .val (.int .i64) t.2.2.1, .dead, .dead, .dead, .dead, .dead, .dead, .dead, .dead, .dead, .dead, .dead, .dead], [(10000000, .root true 105 ts_Key t.2.2.2)]⟩
def f228x3_0 (t : List E_Key) : St := ⟨[.dead, .dead, .dead, .own 10000000, .dead, .dead, .dead, .dead, .dead, .dead, .dead, .dead, .dead, .dead, .dead, .dead, .dead, .dead, .dead, .dead, .dead, .dead], [(10000000, .root true 105 ts_Key t)]⟩
def f228u3_0 (s : St) : Option (List E_Key × Int × Int × List E_Key) := (unS f228h3_0 f228o3_0 s).map fun v => (v.1.2.2.2.2.2.2.2.1, v.1.2.2.2.2.2.2.2.2.1, v.1.2.2.2.2.2.2.2.2.2.1, v.2.1)
theorem f228un3_0 : ∀ (s : St) (t : List E_Key × Int × Int × List E_Key), f228u3_0 s = some t → f228e3_0 t = s := fun s v h => by
  obtain ⟨u, hu, rfl⟩ := Option.map_eq_some_iff.1 h
  exact (show f228e3_0 (u.1.2.2.2.2.2.2.2.1, u.1.2.2.2.2.2.2.2.2.1, u.1.2.2.2.2.2.2.2.2.2.1, u.2.1) = mkS f228h3_0 f228o3_0 u by kernel_rfl).trans (mkS_un f228h3_0 f228o3_0 s u hu)
def f228u3 : St → Option (List E_Key × Int × Int × List E_Key) := f228u3_0
def f228e3 : (List E_Key × Int × Int × List E_Key) → St := f228e3_0
theorem f228un3 : ∀ (s : St) (t : List E_Key × Int × Int × List E_Key), f228u3 s = some t → f228e3 t = s := f228un3_0
noncomputable def f228P : Lp := fun i s {_R} κ => bif Nat.beq i 3 then (f228u3 s).bind fun t => L_impl_Drop_3 (fun t => κ (some 0) (f228x3_0 t)) t else none
noncomputable def f228c3 : Code := (loopsOf f228B).getD 0 .skip
theorem f228A3 : C.live 228 (firstRegion f228c3) = some ([3, 7, 8, 9], [3]) := by kernel_rfl
theorem f228B3 {R : Type} (κ : Option Nat → St → Option R) (s : St) : f228P (firstRegion f228c3) s κ = (f228u3 s).bind fun t => iter (S_impl_Drop_3 (fun t => κ (some 0) (f228x3_0 t))) FUEL t := by kernel_rfl
theorem f228C3 {R : Type} (κ : Option Nat → St → Option R) (again : St → Option R) (t : T_impl_Drop_3) : stepL C f228K f228P 228 f228c3 [3, 7, 8, 9] [3] κ again (f228e3 t) = S_impl_Drop_3 (fun t => κ (some 0) (f228x3_0 t)) (fun t => again (f228e3 t)) t := by kernel_rfl
theorem f228ok3 : LoopOk C f228K f228P 228 f228c3 := loop_ok f228A3 f228e3 f228u3 f228un3 (fun {_R} κ => S_impl_Drop_3 (fun t => κ (some 0) (f228x3_0 t))) (fun {_R} κ s => f228B3 κ s) (fun {_R} κ again t => f228C3 κ again t)
theorem k228 : Contract C Tryz.prog f228K := contract_tab _ (fun p hp => by cases hp)
theorem ev228 (x : List E_Key) : evalB C f228K f228P 228 Tryz.f228 f228B ⟨[.v false [(.sl 105 ts_Key)] [false]], [⟨false, [(.sl 105 ts_Key)], [true]⟩], false⟩ [(.sl 105 ts_Key)] [(.sl 105 ts_Key)] x = F_impl_Drop x := by kernel_rfl
theorem ok228 : ContractAt C Tryz.prog 228 F_impl_Drop := fn_sound (lp := f228P) tok mixed k228 (by kernel_rfl) (fn := Tryz.f228) (c := f228B) (sg := ⟨[.v false [(.sl 105 ts_Key)] [false]], [⟨false, [(.sl 105 ts_Key)], [true]⟩], false⟩) Tryz.func228 (by decide) (by kernel_rfl) (by kernel_rfl) (by kernel_rfl) (fun c' hc' => by
    rw [show loopsOf f228B = [f228c3] by kernel_rfl] at hc'
    simp only [List.mem_cons, List.mem_nil_iff, or_false] at hc'
    rcases hc' with rfl
    · exact f228ok3) (by decide) (by decide) (fun x y h => (ev228 x).trans h)
abbrev T_impl_NodeKeys_3 : Type := List E_s_Key × Int × Int × List E_Key
noncomputable def S_impl_NodeKeys_3 {R : Type} (k0 : List E_Key → Option R) (again : T_impl_NodeKeys_3 → Option R) (t3 : T_impl_NodeKeys_3) : Option R :=
  bif (decide (t3.2.2.1 < t3.2.1)) then if (0 : Int) ≤ t3.2.2.1 then if t3.2.2.1 < ((List.length t3.1 : Nat) : Int) then Option.bind (F_impl_MergeSets (t3.2.2.2, (rd_s_Key t3.1 t3.2.2.1))) fun r1 => again (t3.1, t3.2.1, (Go.IntKind.wrap .i64 (t3.2.2.1 + (1 : Int))), r1) else none else none else k0 t3.2.2.2
noncomputable def L_impl_NodeKeys_3 {R : Type} (k0 : List E_Key → Option R) (t : T_impl_NodeKeys_3) : Option R := iter (S_impl_NodeKeys_3 k0) FUEL t
noncomputable def F_impl_NodeKeys (x : List E_s_Key) : Option (List E_Key) :=
  L_impl_NodeKeys_3 (fun x2 => Option.bind (F_impl_Drop x2) fun r3 => some r3) (x, ((List.length x : Nat) : Int), (0 : Int), ([] : List E_Key))
noncomputable def f185B : Code := match Tryz.f185.body with
  | some c => c
  | none => .skip
noncomputable def f185K : C.Sem := tab [⟨227, F_impl_MergeSets⟩, ⟨228, F_impl_Drop⟩]
def f185h3_0 : List Sh := [.dead, .dead, .dead, .own 10000000, .dead, .dead, .dead, .dead, .v (.sl 99 ts_s_Key), .v (.int .i64), .v (.int .i64), .dead, .dead, .dead, .dead, .dead, .dead, .dead, .dead, .dead]
def f185o3_0 : List (Nat × OSh) := [(10000000, .root true 105 ts_Key)]
def f185e3_0 (t : List E_s_Key × Int × Int × List E_Key) : St := ⟨[.dead, .dead, .dead, .own 10000000, .dead, .dead, .dead, .dead, .val (.sl 99 ts_s_Key) t.1, .val (.int .i64) t.2.1, .val (.int .i64) t.2.2.1, .dead, .dead, .dead, .dead, .dead, .dead, .dead, .dead, .dead], [(10000000, .root true 105 ts_Key t.2.2.2)]⟩
def f185x3_0 (t : List E_Key) : St := ⟨[.dead, .dead, .dead, .own 10000000, .dead, .dead, .dead, .dead, .dead, .dead, .dead, .dead, .dead, .dead, .dead, .dead, .dead, .dead, .dead, .dead], [(10000000, .root true 105 ts_Key t)]⟩
def f185u3_0 (s : St) : Option (List E_s_Key × Int × Int × List E_Key) := (unS f185h3_0 f185o3_0 s).map fun v => (v.1.2.2.2.2.2.2.2.2.1, v.1.2.2.2.2.2.2.2.2.2.1, v.1.2.2.2.2.2.2.2.2.2.2.1, v.2.1)
theorem f185un3_0 : ∀ (s : St) (t : List E_s_Key × Int × Int × List E_Key), f185u3_0 s = some t → f185e3_0 t = s := fun s v h => by
  obtain ⟨u, hu, rfl⟩ := Option.map_eq_some_iff.1 h
  exact (show f185e3_0 (u.1.2.2.2.2.2.2.2.2.1, u.1.2.2.2.2.2.2.2.2.2.1, u.1.2.2.2.2.2.2.2.2.2.2.1, u.2.1) = mkS f185h3_0 f185o3_0 u by kernel_rfl).trans (mkS_un f185h3_0 f185o3_0 s u hu)
def f185u3 : St → Option (List E_s_Key × Int × Int × List E_Key) := f185u3_0
def f185e3 : (List E_s_Key × Int × Int × List E_Key) → St := f185e3_0
theorem f185un3 : ∀ (s : St) (t : List E_s_Key × Int × Int × List E_Key), f185u3 s = some t → f185e3 t = s := f185un3_0
noncomputable def f185P : Lp := fun i s {_R} κ => bif Nat.beq i 3 then (f185u3 s).bind fun t => L_impl_NodeKeys_3 (fun t => κ (some 0) (f185x3_0 t)) t else none
noncomputable def f185c3 : Code := (loopsOf f185B).getD 0 .skip
theorem f185A3 : C.live 185 (firstRegion f185c3) = some ([3, 8, 9, 10], [3]) := by kernel_rfl
theorem f185B3 {R : Type} (κ : Option Nat → St → Option R) (s : St) : f185P (firstRegion f185c3) s κ = (f185u3 s).bind fun t => iter (S_impl_NodeKeys_3 (fun t => κ (some 0) (f185x3_0 t))) FUEL t := by kernel_rfl
theorem f185C3 {R : Type} (κ : Option Nat → St → Option R) (again : St → Option R) (t : T_impl_NodeKeys_3) : stepL C f185K f185P 185 f185c3 [3, 8, 9, 10] [3] κ again (f185e3 t) = S_impl_NodeKeys_3 (fun t => κ (some 0) (f185x3_0 t)) (fun t => again (f185e3 t)) t := by kernel_rfl
theorem f185ok3 : LoopOk C f185K f185P 185 f185c3 := loop_ok f185A3 f185e3 f185u3 f185un3 (fun {_R} κ => S_impl_NodeKeys_3 (fun t => κ (some 0) (f185x3_0 t))) (fun {_R} κ s => f185B3 κ s) (fun {_R} κ again t => f185C3 κ again t)
theorem k185 : Contract C Tryz.prog f185K := contract_tab _ (fun p hp => by
    simp only [List.mem_cons, List.mem_nil_iff, or_false] at hp
    rcases hp with rfl | rfl
    · exact ok227
    · exact ok228)
theorem ev185 (x : List E_s_Key) : evalB C f185K f185P 185 Tryz.f185 f185B ⟨[.v true [(.sl 99 ts_s_Key)] [false]], [⟨false, [(.sl 105 ts_Key)], [true]⟩], false⟩ [(.sl 99 ts_s_Key)] [(.sl 105 ts_Key)] x = F_impl_NodeKeys x := by kernel_rfl
theorem ok185 : ContractAt C Tryz.prog 185 F_impl_NodeKeys := fn_sound (lp := f185P) tok mixed k185 (by kernel_rfl) (fn := Tryz.f185) (c := f185B) (sg := ⟨[.v true [(.sl 99 ts_s_Key)] [false]], [⟨false, [(.sl 105 ts_Key)], [true]⟩], false⟩) Tryz.func185 (by decide) (by kernel_rfl) (by kernel_rfl) (by kernel_rfl) (fun c' hc' => by
    rw [show loopsOf f185B = [f185c3] by kernel_rfl] at hc'
    simp only [List.mem_cons, List.mem_nil_iff, or_false] at hc'
    rcases hc' with rfl
    · exact f185ok3) (by decide) (by decide) (fun x y h => (ev185 x).trans h)
abbrev T_impl_TreeOk_5 : Type := Int × List E_Node × Int × Int × List E_i64 × List E_Node
noncomputable def S_impl_TreeOk_5 {R : Type} (k0 : (Bool × Int) → Option R) (k1 : Int → Option R) (again : T_impl_TreeOk_5 → Option R) (t5 : T_impl_TreeOk_5) : Option R :=
  bif (decide (t5.2.2.2.1 < t5.2.2.1)) then if (0 : Int) ≤ t5.2.2.2.1 then if t5.2.2.2.1 < ((List.length t5.2.1 : Nat) : Int) then Option.bind (bif (decide (t5.2.2.2.1 > (0 : Int))) then if (0 : Int) ≤ (Go.IntKind.wrap .i64 (t5.2.2.2.1 - (1 : Int))) then if (Go.IntKind.wrap .i64 (t5.2.2.2.1 - (1 : Int))) < ((List.length t5.2.2.2.2.1 : Nat) : Int) then if (0 : Int) ≤ t5.2.2.2.1 then if t5.2.2.2.1 < ((List.length t5.2.2.2.2.1 : Nat) : Int) then some (decide ((rd_i64 t5.2.2.2.2.1 (Go.IntKind.wrap .i64 (t5.2.2.2.1 - (1 : Int)))) ≥ (rd_i64 t5.2.2.2.2.1 t5.2.2.2.1))) else none else none else none else none else some false) fun u4 => Option.bind (bif u4 then some true else Option.bind (F_impl_NodeOk (rd_Node t5.2.1 t5.2.2.2.1)) fun r6 => some (!r6)) fun u5 => Option.bind (bif u5 then some true else Option.bind (F_impl_inBounds (t5.2.2.2.2.1, t5.2.2.2.2.2, t5.2.2.2.1)) fun r8 => some (!r8)) fun u7 => bif u7 then k0 (false, t5.1) else Option.bind (F_impl_NodeKeys (rd_Node t5.2.1 t5.2.2.2.1)) fun r9 => Option.bind (bif (decide (t5.2.2.2.1 > (0 : Int))) then some (((List.length r9 : Nat) : Int) == (0 : Int)) else some false) fun u10 => bif u10 then k0 (false, t5.1) else again ((Go.IntKind.wrap .i64 (t5.1 + ((List.length r9 : Nat) : Int))), t5.2.1, t5.2.2.1, (Go.IntKind.wrap .i64 (t5.2.2.2.1 + (1 : Int))), t5.2.2.2.2.1, t5.2.2.2.2.2) else none else none else k1 t5.1
noncomputable def L_impl_TreeOk_5 {R : Type} (k0 : (Bool × Int) → Option R) (k1 : Int → Option R) (t : T_impl_TreeOk_5) : Option R := iter (S_impl_TreeOk_5 k0 k1) FUEL t
noncomputable def F_impl_TreeOk (x : List E_i64 × List E_Node) : Option (Bool) :=
  Option.bind (F_impl_within (((List.length x.2 : Nat) : Int), (1 : Int), (20 : Int))) fun r1 => Option.bind (bif (!r1) then some true else some (((List.length x.1 : Nat) : Int) != ((List.length x.2 : Nat) : Int))) fun u2 => Option.bind (bif u2 then some true else if (0 : Int) ≤ (0 : Int) then if (0 : Int) < ((List.length x.1 : Nat) : Int) then some ((rd_i64 x.1 (0 : Int)) != (0 : Int)) else none else none) fun u3 => bif u3 then some false else L_impl_TreeOk_5 (fun x11 => some x11.1) (fun x12 => some (decide (x12 ≤ (60 : Int)))) ((0 : Int), x.2, ((List.length x.2 : Nat) : Int), (0 : Int), x.1, x.2)
noncomputable def f119B : Code := match Tryz.f119.body with
  | some c => c
  | none => .skip
noncomputable def f119K : C.Sem := tab [⟨103, F_impl_within⟩, ⟨183, F_impl_NodeOk⟩, ⟨184, F_impl_inBounds⟩, ⟨185, F_impl_NodeKeys⟩]
def f119h5_0 : List Sh := [.dead, .box 1 0, .dead, .v (.int .i64), .dead, .dead, .dead, .dead, .dead, .dead, .dead, .dead, .dead, .dead, .dead, .dead, .dead, .dead, .dead, .dead, .dead, .dead, .dead, .dead, .dead, .dead, .dead, .dead, .dead, .v (.sl 97 ts_Node), .v (.int .i64), .v (.int .i64), .dead, .dead, .dead, .dead, .dead, .dead, .dead, .dead, .dead, .dead, .dead, .dead, .dead, .dead, .dead, .dead, .dead, .dead, .dead, .dead, .dead, .dead, .dead, .dead, .dead, .dead, .dead, .dead, .dead, .dead, .dead, .dead, .dead, .dead, .dead, .dead, .dead, .dead, .dead, .dead, .dead, .dead, .dead, .dead, .dead, .dead]
def f119o5_0 : List (Nat × OSh) := [(1, .box [.v (.sl 3 ts_i64), .v (.sl 97 ts_Node)])]
def f119e5_0 (t : Int × List E_Node × Int × Int × List E_i64 × List E_Node) : St := ⟨[.dead, .box 1 0, .dead, .val (.int .i64) t.1, .dead, .dead, .dead, .dead, .dead, .dead, .dead, .dead, .dead, .dead, .dead, .dead, .dead, .dead, .dead, .dead, .dead, .dead, .dead, .dead, .dead, .dead, .dead, .dead, .dead, .val (.sl 97 ts_Node) t.2.1, .val (.int .i64) t.2.2.1, .val (.int .i64) t.2.2.2.1, .dead, .dead, .dead, .dead, .dead, .dead, .dead, .dead, .dead, .dead, .dead, .dead, .dead, .dead, .dead, .dead, .dead, .dead, .dead, .dead, .dead, .dead, .dead, .dead, .dead, .dead, .dead, .dead, .dead, .dead, .dead, .dead, .dead, .dead, .dead, .dead, .dead, .dead, .dead, .dead, .dead, .dead, .dead, .dead, .dead, .dead], [(1, .box [.val (.sl 3 ts_i64) t.2.2.2.2.1, .val (.sl 97 ts_Node) t.2.2.2.2.2])]⟩
def f119x5_0 (t : Bool × Int) : St := ⟨[.dead, .dead, .val .bool t.1, .val (.int .i64) t.2, .dead, .dead, .dead, .dead, .dead, .dead, .dead, .dead, .dead, .dead, .dead, .dead, .dead, .dead, .dead, .dead, .dead, .dead, .dead, .dead, .dead, .dead, .dead, .dead, .dead, .dead, .dead, .dead, .dead, .dead, .dead, .dead, .dead, .dead, .dead, .dead, .dead, .dead, .dead, .dead, .dead, .dead, .dead, .dead, .dead, .dead, .dead, .dead, .dead, .dead, .dead, .dead, .dead, .dead, .dead, .dead, .dead, .dead, .dead, .dead, .dead, .dead, .dead, .dead, .dead, .dead, .dead, .dead, .dead, .dead, .dead, .dead, .dead, .dead], []⟩
def f119x5_1 (t : Int) : St := ⟨[.dead, .dead, .dead, .val (.int .i64) t, .dead, .dead, .dead, .dead, .dead, .dead, .dead, .dead, .dead, .dead, .dead, .dead, .dead, .dead, .dead, .dead, .dead, .dead, .dead, .dead, .dead, .dead, .dead, .dead, .dead, .dead, .dead, .dead, .dead, .dead, .dead, .dead, .dead, .dead, .dead, .dead, .dead, .dead, .dead, .dead, .dead, .dead, .dead, .dead, .dead, .dead, .dead, .dead, .dead, .dead, .dead, .dead, .dead, .dead, .dead, .dead, .dead, .dead, .dead, .dead, .dead, .dead, .dead, .dead, .dead, .dead, .dead, .dead, .dead, .dead, .dead, .dead, .dead, .dead], []⟩
def f119u5_0 (s : St) : Option (Int × List E_Node × Int × Int × List E_i64 × List E_Node) := (unS f119h5_0 f119o5_0 s).map fun v => (v.1.2.2.2.1, v.1.2.2.2.2.2.2.2.2.2.2.2.2.2.2.2.2.2.2.2.2.2.2.2.2.2.2.2.2.2.1, v.1.2.2.2.2.2.2.2.2.2.2.2.2.2.2.2.2.2.2.2.2.2.2.2.2.2.2.2.2.2.2.1, v.1.2.2.2.2.2.2.2.2.2.2.2.2.2.2.2.2.2.2.2.2.2.2.2.2.2.2.2.2.2.2.2.1, v.2.1.1, v.2.1.2.1)
theorem f119un5_0 : ∀ (s : St) (t : Int × List E_Node × Int × Int × List E_i64 × List E_Node), f119u5_0 s = some t → f119e5_0 t = s := fun s v h => by
  obtain ⟨u, hu, rfl⟩ := Option.map_eq_some_iff.1 h
  exact (show f119e5_0 (u.1.2.2.2.1, u.1.2.2.2.2.2.2.2.2.2.2.2.2.2.2.2.2.2.2.2.2.2.2.2.2.2.2.2.2.2.1, u.1.2.2.2.2.2.2.2.2.2.2.2.2.2.2.2.2.2.2.2.2.2.2.2.2.2.2.2.2.2.2.1, u.1.2.2.2.2.2.2.2.2.2.2.2.2.2.2.2.2.2.2.2.2.2.2.2.2.2.2.2.2.2.2.2.1, u.2.1.1, u.2.1.2.1) = mkS f119h5_0 f119o5_0 u by kernel_rfl).trans (mkS_un f119h5_0 f119o5_0 s u hu)
def f119u5 : St → Option (Int × List E_Node × Int × Int × List E_i64 × List E_Node) := f119u5_0
def f119e5 : (Int × List E_Node × Int × Int × List E_i64 × List E_Node) → St := f119e5_0
theorem f119un5 : ∀ (s : St) (t : Int × List E_Node × Int × Int × List E_i64 × List E_Node), f119u5 s = some t → f119e5 t = s := f119un5_0
noncomputable def f119P : Lp := fun i s {_R} κ => bif Nat.beq i 5 then (f119u5 s).bind fun t => L_impl_TreeOk_5 (fun t => κ (none) (f119x5_0 t)) (fun t => κ (some 0) (f119x5_1 t)) t else none
noncomputable def f119c5 : Code := (loopsOf f119B).getD 0 .skip
theorem f119A5 : C.live 119 (firstRegion f119c5) = some ([1, 3, 29, 30, 31, 39, 40, 41, 42, 43, 44, 45, 46, 47, 48, 49, 50, 53, 54, 55, 58, 59, 60, 61, 69, 70], [2, 3]) := by kernel_rfl
theorem f119B5 {R : Type} (κ : Option Nat → St → Option R) (s : St) : f119P (firstRegion f119c5) s κ = (f119u5 s).bind fun t => iter (S_impl_TreeOk_5 (fun t => κ (none) (f119x5_0 t)) (fun t => κ (some 0) (f119x5_1 t))) FUEL t := by kernel_rfl
theorem f119C5 {R : Type} (κ : Option Nat → St → Option R) (again : St → Option R) (t : T_impl_TreeOk_5) : stepL C f119K f119P 119 f119c5 [1, 3, 29, 30, 31, 39, 40, 41, 42, 43, 44, 45, 46, 47, 48, 49, 50, 53, 54, 55, 58, 59, 60, 61, 69, 70] [2, 3] κ again (f119e5 t) = S_impl_TreeOk_5 (fun t => κ (none) (f119x5_0 t)) (fun t => κ (some 0) (f119x5_1 t)) (fun t => again (f119e5 t)) t := by kernel_rfl
theorem f119ok5 : LoopOk C f119K f119P 119 f119c5 := loop_ok f119A5 f119e5 f119u5 f119un5 (fun {_R} κ => S_impl_TreeOk_5 (fun t => κ (none) (f119x5_0 t)) (fun t => κ (some 0) (f119x5_1 t))) (fun {_R} κ s => f119B5 κ s) (fun {_R} κ again t => f119C5 κ again t)
theorem k119 : Contract C Tryz.prog f119K := contract_tab _ (fun p hp => by
    simp only [List.mem_cons, List.mem_nil_iff, or_false] at hp
    rcases hp with rfl | rfl | rfl | rfl
    · exact ok103
    · exact ok183
    · exact ok184
    · exact ok185)
theorem ev119 (x : List E_i64 × List E_Node) : evalB C f119K f119P 119 Tryz.f119 f119B ⟨[.v true [(.sl 3 ts_i64), (.sl 97 ts_Node)] [false, false]], [⟨false, [.bool], [false]⟩], false⟩ [(.sl 3 ts_i64), (.sl 97 ts_Node)] [.bool] x = F_impl_TreeOk x := by kernel_rfl
theorem ok119 : ContractAt C Tryz.prog 119 F_impl_TreeOk := fn_sound (lp := f119P) tok mixed k119 (by kernel_rfl) (fn := Tryz.f119) (c := f119B) (sg := ⟨[.v true [(.sl 3 ts_i64), (.sl 97 ts_Node)] [false, false]], [⟨false, [.bool], [false]⟩], false⟩) Tryz.func119 (by decide) (by kernel_rfl) (by kernel_rfl) (by kernel_rfl) (fun c' hc' => by
    rw [show loopsOf f119B = [f119c5] by kernel_rfl] at hc'
    simp only [List.mem_cons, List.mem_nil_iff, or_false] at hc'
    rcases hc' with rfl
    · exact f119ok5) (by decide) (by decide) (fun x y h => (ev119 x).trans h)
noncomputable def F_impl_AgeAt_1 (x : Int × Int × Int) : Option (Bool × Int) :=
  some ((x.1 == x.2.2), x.2.2)
noncomputable def f230B : Code := match Tryz.f230.body with
  | some c => c
  | none => .skip
noncomputable def f230K : C.Sem := tab []
noncomputable def f230P : Lp := fun i s {_R} κ => none
theorem k230 : Contract C Tryz.prog f230K := contract_tab _ (fun p hp => by cases hp)
theorem ev230 (x : Int × Int × Int) : evalB C f230K f230P 230 Tryz.f230 f230B ⟨[.v true [(.int .i64), (.int .i64)] [false, false], .p none [(.int .i64)] [false]], [⟨false, [.bool], [false]⟩], false⟩ [(.int .i64), (.int .i64), (.int .i64)] [.bool, (.int .i64)] x = F_impl_AgeAt_1 x := by kernel_rfl
theorem ok230 : ContractAt C Tryz.prog 230 F_impl_AgeAt_1 := fn_sound (lp := f230P) tok mixed k230 (by kernel_rfl) (fn := Tryz.f230) (c := f230B) (sg := ⟨[.v true [(.int .i64), (.int .i64)] [false, false], .p none [(.int .i64)] [false]], [⟨false, [.bool], [false]⟩], false⟩) Tryz.func230 (by decide) (by kernel_rfl) (by kernel_rfl) (by kernel_rfl) (fun c' hc' => by
    rw [show loopsOf f230B = [] by kernel_rfl] at hc'
    cases hc') (by decide) (by decide) (fun x y h => (ev230 x).trans h)
abbrev T_slices_IndexFunc_Age_impl_AgeAt_1_2 : Type := List E_Age × Int × Int × Int
noncomputable def S_slices_IndexFunc_Age_impl_AgeAt_1_2 {R : Type} (k0 : (Int × Int) → Option R) (k1 : Int → Option R) (again : T_slices_IndexFunc_Age_impl_AgeAt_1_2 → Option R) (t2 : T_slices_IndexFunc_Age_impl_AgeAt_1_2) : Option R :=
  bif (decide (t2.2.2.1 < t2.2.1)) then if (0 : Int) ≤ t2.2.2.1 then if t2.2.2.1 < ((List.length t2.1 : Nat) : Int) then Option.bind (F_impl_AgeAt_1 ((rd_Age t2.1 t2.2.2.1).1, (rd_Age t2.1 t2.2.2.1).2, t2.2.2.2)) fun r1 => bif r1.1 then k0 (t2.2.2.1, r1.2) else again (t2.1, t2.2.1, (Go.IntKind.wrap .i64 (t2.2.2.1 + (1 : Int))), r1.2) else none else none else k1 t2.2.2.2
noncomputable def L_slices_IndexFunc_Age_impl_AgeAt_1_2 {R : Type} (k0 : (Int × Int) → Option R) (k1 : Int → Option R) (t : T_slices_IndexFunc_Age_impl_AgeAt_1_2) : Option R := iter (S_slices_IndexFunc_Age_impl_AgeAt_1_2 k0 k1) FUEL t
noncomputable def F_slices_IndexFunc_Age_impl_AgeAt_1 (x : List E_Age × Int) : Option (Int × Int) :=
  L_slices_IndexFunc_Age_impl_AgeAt_1_2 (fun x2 => some (x2.1, x2.2)) (fun x3 => some ((-1 : Int), x3)) (x.1, ((List.length x.1 : Nat) : Int), (0 : Int), x.2)
noncomputable def f100000B : Code := match Tryz.f229.body with
  | some c => c
  | none => .skip
noncomputable def f100000K : C.Sem := tab [⟨230, F_impl_AgeAt_1⟩]
def f100000h2_0 : List Sh := [.v (.sl 88 ts_Age), .clo 230 901, .dead, .dead, .dead, .dead, .dead, .v (.int .i64), .v (.int .i64), .dead, .dead, .dead, .dead, .dead, .dead, .dead, .dead, .dead, .dead]
def f100000o2_0 : List (Nat × OSh) := [(901, .box [.v (.int .i64)])]
def f100000e2_0 (t : List E_Age × Int × Int × Int) : St := ⟨[.val (.sl 88 ts_Age) t.1, .clo 230 901, .dead, .dead, .dead, .dead, .dead, .val (.int .i64) t.2.1, .val (.int .i64) t.2.2.1, .dead, .dead, .dead, .dead, .dead, .dead, .dead, .dead, .dead, .dead], [(901, .box [.val (.int .i64) t.2.2.2])]⟩
def f100000x2_0 (t : Int × Int) : St := ⟨[.dead, .clo 230 901, .dead, .dead, .val (.int .i64) t.1, .dead, .dead, .dead, .dead, .dead, .dead, .dead, .dead, .dead, .dead, .dead, .dead, .dead, .dead], [(901, .box [.val (.int .i64) t.2])]⟩
def f100000x2_1 (t : Int) : St := ⟨[.dead, .clo 230 901, .dead, .dead, .dead, .dead, .dead, .dead, .dead, .dead, .dead, .dead, .dead, .dead, .dead, .dead, .dead, .dead, .dead], [(901, .box [.val (.int .i64) t])]⟩
def f100000u2_0 (s : St) : Option (List E_Age × Int × Int × Int) := (unS f100000h2_0 f100000o2_0 s).map fun v => (v.1.1, v.1.2.2.2.2.2.2.2.1, v.1.2.2.2.2.2.2.2.2.1, v.2.1.1)
theorem f100000un2_0 : ∀ (s : St) (t : List E_Age × Int × Int × Int), f100000u2_0 s = some t → f100000e2_0 t = s := fun s v h => by
  obtain ⟨u, hu, rfl⟩ := Option.map_eq_some_iff.1 h
  exact (show f100000e2_0 (u.1.1, u.1.2.2.2.2.2.2.2.1, u.1.2.2.2.2.2.2.2.2.1, u.2.1.1) = mkS f100000h2_0 f100000o2_0 u by kernel_rfl).trans (mkS_un f100000h2_0 f100000o2_0 s u hu)
def f100000u2 : St → Option (List E_Age × Int × Int × Int) := f100000u2_0
def f100000e2 : (List E_Age × Int × Int × Int) → St := f100000e2_0
theorem f100000un2 : ∀ (s : St) (t : List E_Age × Int × Int × Int), f100000u2 s = some t → f100000e2 t = s := f100000un2_0
noncomputable def f100000P : Lp := fun i s {_R} κ => bif Nat.beq i 2 then (f100000u2 s).bind fun t => L_slices_IndexFunc_Age_impl_AgeAt_1_2 (fun t => κ (none) (f100000x2_0 t)) (fun t => κ (some 0) (f100000x2_1 t)) t else none
noncomputable def f100000c2 : Code := (loopsOf f100000B).getD 0 .skip
theorem f100000A2 : C.live 100000 (firstRegion f100000c2) = some ([0, 1, 7, 8], [1, 4]) := by kernel_rfl
theorem f100000B2 {R : Type} (κ : Option Nat → St → Option R) (s : St) : f100000P (firstRegion f100000c2) s κ = (f100000u2 s).bind fun t => iter (S_slices_IndexFunc_Age_impl_AgeAt_1_2 (fun t => κ (none) (f100000x2_0 t)) (fun t => κ (some 0) (f100000x2_1 t))) FUEL t := by kernel_rfl
theorem f100000C2 {R : Type} (κ : Option Nat → St → Option R) (again : St → Option R) (t : T_slices_IndexFunc_Age_impl_AgeAt_1_2) : stepL C f100000K f100000P 100000 f100000c2 [0, 1, 7, 8] [1, 4] κ again (f100000e2 t) = S_slices_IndexFunc_Age_impl_AgeAt_1_2 (fun t => κ (none) (f100000x2_0 t)) (fun t => κ (some 0) (f100000x2_1 t)) (fun t => again (f100000e2 t)) t := by kernel_rfl
theorem f100000ok2 : LoopOk C f100000K f100000P 100000 f100000c2 := loop_ok f100000A2 f100000e2 f100000u2 f100000un2 (fun {_R} κ => S_slices_IndexFunc_Age_impl_AgeAt_1_2 (fun t => κ (none) (f100000x2_0 t)) (fun t => κ (some 0) (f100000x2_1 t))) (fun {_R} κ s => f100000B2 κ s) (fun {_R} κ again t => f100000C2 κ again t)
theorem k100000 : Contract C Tryz.prog f100000K := contract_tab _ (fun p hp => by
    simp only [List.mem_cons, List.mem_nil_iff, or_false] at hp
    rcases hp with rfl
    · exact ok230)
theorem ev100000 (x : List E_Age × Int) : evalB C f100000K f100000P 100000 Tryz.f229 f100000B ⟨[.v false [(.sl 88 ts_Age)] [false], .p (some 230) [(.int .i64)] [false]], [⟨false, [(.int .i64)], [false]⟩], false⟩ [(.sl 88 ts_Age), (.int .i64)] [(.int .i64), (.int .i64)] x = F_slices_IndexFunc_Age_impl_AgeAt_1 x := by kernel_rfl
theorem ok100000 : ContractAt C Tryz.prog 100000 F_slices_IndexFunc_Age_impl_AgeAt_1 := fn_sound (lp := f100000P) tok mixed k100000 (by kernel_rfl) (fn := Tryz.f229) (c := f100000B) (sg := ⟨[.v false [(.sl 88 ts_Age)] [false], .p (some 230) [(.int .i64)] [false]], [⟨false, [(.int .i64)], [false]⟩], false⟩) Tryz.func229 (by decide) (by kernel_rfl) (by kernel_rfl) (by kernel_rfl) (fun c' hc' => by
    rw [show loopsOf f100000B = [f100000c2] by kernel_rfl] at hc'
    simp only [List.mem_cons, List.mem_nil_iff, or_false] at hc'
    rcases hc' with rfl
    · exact f100000ok2) (by decide) (by decide) (fun x y h => (ev100000 x).trans h)
noncomputable def F_impl_AgeAt (x : List E_Age × Int) : Option (Int) :=
  Option.bind (F_slices_IndexFunc_Age_impl_AgeAt_1 (x.1, x.2)) fun r1 => some r1.1
noncomputable def f186B : Code := match Tryz.f186.body with
  | some c => c
  | none => .skip
noncomputable def f186K : C.Sem := tab [⟨100000, F_slices_IndexFunc_Age_impl_AgeAt_1⟩]
noncomputable def f186P : Lp := fun i s {_R} κ => none
theorem k186 : Contract C Tryz.prog f186K := contract_tab _ (fun p hp => by
    simp only [List.mem_cons, List.mem_nil_iff, or_false] at hp
    rcases hp with rfl
    · exact ok100000)
theorem ev186 (x : List E_Age × Int) : evalB C f186K f186P 186 Tryz.f186 f186B ⟨[.v false [(.sl 88 ts_Age)] [false], .v false [(.int .i64)] [false]], [⟨false, [(.int .i64)], [false]⟩], false⟩ [(.sl 88 ts_Age), (.int .i64)] [(.int .i64)] x = F_impl_AgeAt x := by kernel_rfl
theorem ok186 : ContractAt C Tryz.prog 186 F_impl_AgeAt := fn_sound (lp := f186P) tok mixed k186 (by kernel_rfl) (fn := Tryz.f186) (c := f186B) (sg := ⟨[.v false [(.sl 88 ts_Age)] [false], .v false [(.int .i64)] [false]], [⟨false, [(.int .i64)], [false]⟩], false⟩) Tryz.func186 (by decide) (by kernel_rfl) (by kernel_rfl) (by kernel_rfl) (fun c' hc' => by
    rw [show loopsOf f186B = [] by kernel_rfl] at hc'
    cases hc') (by decide) (by decide) (fun x y h => (ev186 x).trans h)
abbrev T_impl_AgesOk_2 : Type := List E_Age × List E_Age × Int × Int
noncomputable def S_impl_AgesOk_2 {R : Type} (k0 : (List E_Age × Bool) → Option R) (k1 : List E_Age → Option R) (again : T_impl_AgesOk_2 → Option R) (t2 : T_impl_AgesOk_2) : Option R :=
  bif (decide (t2.2.2.2 < t2.2.2.1)) then if (0 : Int) ≤ t2.2.2.2 then if t2.2.2.2 < ((List.length t2.2.1 : Nat) : Int) then Option.bind (F_impl_within ((rd_Age t2.2.1 t2.2.2.2).1, (1 : Int), (60 : Int))) fun r1 => Option.bind (bif (!r1) then some true else Option.bind (bif (decide (t2.2.2.2 > (0 : Int))) then if (0 : Int) ≤ (Go.IntKind.wrap .i64 (t2.2.2.2 - (1 : Int))) then if (Go.IntKind.wrap .i64 (t2.2.2.2 - (1 : Int))) < ((List.length t2.1 : Nat) : Int) then some (decide ((rd_Age t2.1 (Go.IntKind.wrap .i64 (t2.2.2.2 - (1 : Int)))).1 ≥ (rd_Age t2.2.1 t2.2.2.2).1)) else none else none else some false) fun u3 => some u3) fun u2 => Option.bind (bif u2 then some true else Option.bind (bif ((rd_Age t2.2.1 t2.2.2.2).2 != (0 : Int)) then if (0 : Int) ≤ (0 : Int) then if (0 : Int) ≤ t2.2.2.2 then if t2.2.2.2 ≤ ((List.length t2.1 : Nat) : Int) then Option.bind (F_impl_AgeAt ((List.drop (Int.toNat (0 : Int)) (List.take (Int.toNat t2.2.2.2) t2.1)), (rd_Age t2.2.1 t2.2.2.2).2)) fun r6 => some (decide (r6 < (0 : Int))) else none else none else none else some false) fun u5 => some u5) fun u4 => bif u4 then k0 (t2.1, false) else again (t2.1, t2.2.1, t2.2.2.1, (Go.IntKind.wrap .i64 (t2.2.2.2 + (1 : Int)))) else none else none else k1 t2.1
noncomputable def L_impl_AgesOk_2 {R : Type} (k0 : (List E_Age × Bool) → Option R) (k1 : List E_Age → Option R) (t : T_impl_AgesOk_2) : Option R := iter (S_impl_AgesOk_2 k0 k1) FUEL t
noncomputable def F_impl_AgesOk (x : List E_Age) : Option (Bool) :=
  L_impl_AgesOk_2 (fun x7 => some x7.2) (fun x8 => some (decide (((List.length x8 : Nat) : Int) ≤ (16 : Int)))) (x, x, ((List.length x : Nat) : Int), (0 : Int))
noncomputable def f120B : Code := match Tryz.f120.body with
  | some c => c
  | none => .skip
noncomputable def f120K : C.Sem := tab [⟨103, F_impl_within⟩, ⟨186, F_impl_AgeAt⟩]
def f120h2_0 : List Sh := [.v (.sl 88 ts_Age), .dead, .dead, .dead, .dead, .v (.sl 88 ts_Age), .v (.int .i64), .v (.int .i64), .dead, .dead, .dead, .dead, .dead, .dead, .dead, .dead, .dead, .dead, .dead, .dead, .dead, .dead, .dead, .dead, .dead, .dead, .dead, .dead, .dead, .dead, .dead, .dead, .dead, .dead, .dead, .dead, .dead, .dead, .dead, .dead, .dead, .dead, .dead, .dead, .dead, .dead, .dead, .dead, .dead]
def f120o2_0 : List (Nat × OSh) := []
def f120e2_0 (t : List E_Age × List E_Age × Int × Int) : St := ⟨[.val (.sl 88 ts_Age) t.1, .dead, .dead, .dead, .dead, .val (.sl 88 ts_Age) t.2.1, .val (.int .i64) t.2.2.1, .val (.int .i64) t.2.2.2, .dead, .dead, .dead, .dead, .dead, .dead, .dead, .dead, .dead, .dead, .dead, .dead, .dead, .dead, .dead, .dead, .dead, .dead, .dead, .dead, .dead, .dead, .dead, .dead, .dead, .dead, .dead, .dead, .dead, .dead, .dead, .dead, .dead, .dead, .dead, .dead, .dead, .dead, .dead, .dead, .dead], []⟩
def f120x2_0 (t : List E_Age × Bool) : St := ⟨[.val (.sl 88 ts_Age) t.1, .dead, .val .bool t.2, .dead, .dead, .dead, .dead, .dead, .dead, .dead, .dead, .dead, .dead, .dead, .dead, .dead, .dead, .dead, .dead, .dead, .dead, .dead, .dead, .dead, .dead, .dead, .dead, .dead, .dead, .dead, .dead, .dead, .dead, .dead, .dead, .dead, .dead, .dead, .dead, .dead, .dead, .dead, .dead, .dead, .dead, .dead, .dead, .dead, .dead], []⟩
def f120x2_1 (t : List E_Age) : St := ⟨[.val (.sl 88 ts_Age) t, .dead, .dead, .dead, .dead, .dead, .dead, .dead, .dead, .dead, .dead, .dead, .dead, .dead, .dead, .dead, .dead, .dead, .dead, .dead, .dead, .dead, .dead, .dead, .dead, .dead, .dead, .dead, .dead, .dead, .dead, .dead, .dead, .dead, .dead, .dead, .dead, .dead, .dead, .dead, .dead, .dead, .dead, .dead, .dead, .dead, .dead, .dead, .dead], []⟩
def f120u2_0 (s : St) : Option (List E_Age × List E_Age × Int × Int) := (unS f120h2_0 f120o2_0 s).map fun v => (v.1.1, v.1.2.2.2.2.2.1, v.1.2.2.2.2.2.2.1, v.1.2.2.2.2.2.2.2.1)
theorem f120un2_0 : ∀ (s : St) (t : List E_Age × List E_Age × Int × Int), f120u2_0 s = some t → f120e2_0 t = s := fun s v h => by
  obtain ⟨u, hu, rfl⟩ := Option.map_eq_some_iff.1 h
  exact (show f120e2_0 (u.1.1, u.1.2.2.2.2.2.1, u.1.2.2.2.2.2.2.1, u.1.2.2.2.2.2.2.2.1) = mkS f120h2_0 f120o2_0 u by kernel_rfl).trans (mkS_un f120h2_0 f120o2_0 s u hu)
def f120u2 : St → Option (List E_Age × List E_Age × Int × Int) := f120u2_0
def f120e2 : (List E_Age × List E_Age × Int × Int) → St := f120e2_0
theorem f120un2 : ∀ (s : St) (t : List E_Age × List E_Age × Int × Int), f120u2 s = some t → f120e2 t = s := f120un2_0
noncomputable def f120P : Lp := fun i s {_R} κ => bif Nat.beq i 2 then (f120u2 s).bind fun t => L_impl_AgesOk_2 (fun t => κ (none) (f120x2_0 t)) (fun t => κ (some 0) (f120x2_1 t)) t else none
noncomputable def f120c2 : Code := (loopsOf f120B).getD 0 .skip
theorem f120A2 : C.live 120 (firstRegion f120c2) = some ([0, 5, 6, 7, 17, 18, 19, 20, 21, 22, 23, 24, 25, 26, 27, 28, 29, 32, 33, 34, 35, 36, 37, 38, 39, 40, 41, 42, 43], [0, 2]) := by kernel_rfl
theorem f120B2 {R : Type} (κ : Option Nat → St → Option R) (s : St) : f120P (firstRegion f120c2) s κ = (f120u2 s).bind fun t => iter (S_impl_AgesOk_2 (fun t => κ (none) (f120x2_0 t)) (fun t => κ (some 0) (f120x2_1 t))) FUEL t := by kernel_rfl
theorem f120C2 {R : Type} (κ : Option Nat → St → Option R) (again : St → Option R) (t : T_impl_AgesOk_2) : stepL C f120K f120P 120 f120c2 [0, 5, 6, 7, 17, 18, 19, 20, 21, 22, 23, 24, 25, 26, 27, 28, 29, 32, 33, 34, 35, 36, 37, 38, 39, 40, 41, 42, 43] [0, 2] κ again (f120e2 t) = S_impl_AgesOk_2 (fun t => κ (none) (f120x2_0 t)) (fun t => κ (some 0) (f120x2_1 t)) (fun t => again (f120e2 t)) t := by kernel_rfl
theorem f120ok2 : LoopOk C f120K f120P 120 f120c2 := loop_ok f120A2 f120e2 f120u2 f120un2 (fun {_R} κ => S_impl_AgesOk_2 (fun t => κ (none) (f120x2_0 t)) (fun t => κ (some 0) (f120x2_1 t))) (fun {_R} κ s => f120B2 κ s) (fun {_R} κ again t => f120C2 κ again t)
theorem k120 : Contract C Tryz.prog f120K := contract_tab _ (fun p hp => by
    simp only [List.mem_cons, List.mem_nil_iff, or_false] at hp
    rcases hp with rfl | rfl
    · exact ok103
    · exact ok186)
theorem ev120 (x : List E_Age) : evalB C f120K f120P 120 Tryz.f120 f120B ⟨[.v false [(.sl 88 ts_Age)] [false]], [⟨false, [.bool], [false]⟩], false⟩ [(.sl 88 ts_Age)] [.bool] x = F_impl_AgesOk x := by kernel_rfl
theorem ok120 : ContractAt C Tryz.prog 120 F_impl_AgesOk := fn_sound (lp := f120P) tok mixed k120 (by kernel_rfl) (fn := Tryz.f120) (c := f120B) (sg := ⟨[.v false [(.sl 88 ts_Age)] [false]], [⟨false, [.bool], [false]⟩], false⟩) Tryz.func120 (by decide) (by kernel_rfl) (by kernel_rfl) (by kernel_rfl) (fun c' hc' => by
    rw [show loopsOf f120B = [f120c2] by kernel_rfl] at hc'
    simp only [List.mem_cons, List.mem_nil_iff, or_false] at hc'
    rcases hc' with rfl
    · exact f120ok2) (by decide) (by decide) (fun x y h => (ev120 x).trans h)
noncomputable def F_impl_isWord (x : Int) : Option (Bool) :=
  Option.bind (F_impl_within (x, (0 : Int), (65535 : Int))) fun r1 => some r1
noncomputable def f187B : Code := match Tryz.f187.body with
  | some c => c
  | none => .skip
noncomputable def f187K : C.Sem := tab [⟨103, F_impl_within⟩]
noncomputable def f187P : Lp := fun i s {_R} κ => none
theorem k187 : Contract C Tryz.prog f187K := contract_tab _ (fun p hp => by
    simp only [List.mem_cons, List.mem_nil_iff, or_false] at hp
    rcases hp with rfl
    · exact ok103)
theorem ev187 (x : Int) : evalB C f187K f187P 187 Tryz.f187 f187B ⟨[.v false [(.int .i64)] [false]], [⟨false, [.bool], [false]⟩], false⟩ [(.int .i64)] [.bool] x = F_impl_isWord x := by kernel_rfl
theorem ok187 : ContractAt C Tryz.prog 187 F_impl_isWord := fn_sound (lp := f187P) tok mixed k187 (by kernel_rfl) (fn := Tryz.f187) (c := f187B) (sg := ⟨[.v false [(.int .i64)] [false]], [⟨false, [.bool], [false]⟩], false⟩) Tryz.func187 (by decide) (by kernel_rfl) (by kernel_rfl) (by kernel_rfl) (fun c' hc' => by
    rw [show loopsOf f187B = [] by kernel_rfl] at hc'
    cases hc') (by decide) (by decide) (fun x y h => (ev187 x).trans h)
abbrev T_impl_CellsOk_2 : Type := List E_Cell × List E_Cell × Int × Int
noncomputable def S_impl_CellsOk_2 {R : Type} (k0 : (List E_Cell × Bool) → Option R) (k1 : List E_Cell → Option R) (again : T_impl_CellsOk_2 → Option R) (t2 : T_impl_CellsOk_2) : Option R :=
  bif (decide (t2.2.2.2 < t2.2.2.1)) then if (0 : Int) ≤ t2.2.2.2 then if t2.2.2.2 < ((List.length t2.2.1 : Nat) : Int) then Option.bind (F_impl_within ((rd_Cell t2.2.1 t2.2.2.2).1, (0 : Int), (999 : Int))) fun r1 => Option.bind (bif (!r1) then some true else Option.bind (F_impl_isWord ((rd_Cell t2.2.1 t2.2.2.2).2.2)) fun r3 => some (!r3)) fun u2 => Option.bind (bif u2 then some true else Option.bind (bif ((rd_Cell t2.2.1 t2.2.2.2).2.2 != (0 : Int)) then some (!((rd_Cell t2.2.1 t2.2.2.2).2.1)) else some false) fun u5 => some u5) fun u4 => bif u4 then k0 (t2.1, false) else again (t2.1, t2.2.1, t2.2.2.1, (Go.IntKind.wrap .i64 (t2.2.2.2 + (1 : Int)))) else none else none else k1 t2.1
noncomputable def L_impl_CellsOk_2 {R : Type} (k0 : (List E_Cell × Bool) → Option R) (k1 : List E_Cell → Option R) (t : T_impl_CellsOk_2) : Option R := iter (S_impl_CellsOk_2 k0 k1) FUEL t
noncomputable def F_impl_CellsOk (x : List E_Cell) : Option (Bool) :=
  L_impl_CellsOk_2 (fun x6 => some x6.2) (fun x7 => some (((List.length x7 : Nat) : Int) == (24 : Int))) (x, x, ((List.length x : Nat) : Int), (0 : Int))
noncomputable def f121B : Code := match Tryz.f121.body with
  | some c => c
  | none => .skip
noncomputable def f121K : C.Sem := tab [⟨103, F_impl_within⟩, ⟨187, F_impl_isWord⟩]
def f121h2_0 : List Sh := [.v (.sl 94 ts_Cell), .dead, .dead, .dead, .dead, .v (.sl 94 ts_Cell), .v (.int .i64), .v (.int .i64), .dead, .dead, .dead, .dead, .dead, .dead, .dead, .dead, .dead, .dead, .dead, .dead, .dead, .dead, .dead, .dead, .dead, .dead, .dead, .dead, .dead, .dead, .dead, .dead, .dead, .dead, .dead]
def f121o2_0 : List (Nat × OSh) := []
def f121e2_0 (t : List E_Cell × List E_Cell × Int × Int) : St := ⟨[.val (.sl 94 ts_Cell) t.1, .dead, .dead, .dead, .dead, .val (.sl 94 ts_Cell) t.2.1, .val (.int .i64) t.2.2.1, .val (.int .i64) t.2.2.2, .dead, .dead, .dead, .dead, .dead, .dead, .dead, .dead, .dead, .dead, .dead, .dead, .dead, .dead, .dead, .dead, .dead, .dead, .dead, .dead, .dead, .dead, .dead, .dead, .dead, .dead, .dead], []⟩
def f121x2_0 (t : List E_Cell × Bool) : St := ⟨[.val (.sl 94 ts_Cell) t.1, .dead, .val .bool t.2, .dead, .dead, .dead, .dead, .dead, .dead, .dead, .dead, .dead, .dead, .dead, .dead, .dead, .dead, .dead, .dead, .dead, .dead, .dead, .dead, .dead, .dead, .dead, .dead, .dead, .dead, .dead, .dead, .dead, .dead, .dead, .dead], []⟩
def f121x2_1 (t : List E_Cell) : St := ⟨[.val (.sl 94 ts_Cell) t, .dead, .dead, .dead, .dead, .dead, .dead, .dead, .dead, .dead, .dead, .dead, .dead, .dead, .dead, .dead, .dead, .dead, .dead, .dead, .dead, .dead, .dead, .dead, .dead, .dead, .dead, .dead, .dead, .dead, .dead, .dead, .dead, .dead, .dead], []⟩
def f121u2_0 (s : St) : Option (List E_Cell × List E_Cell × Int × Int) := (unS f121h2_0 f121o2_0 s).map fun v => (v.1.1, v.1.2.2.2.2.2.1, v.1.2.2.2.2.2.2.1, v.1.2.2.2.2.2.2.2.1)
theorem f121un2_0 : ∀ (s : St) (t : List E_Cell × List E_Cell × Int × Int), f121u2_0 s = some t → f121e2_0 t = s := fun s v h => by
  obtain ⟨u, hu, rfl⟩ := Option.map_eq_some_iff.1 h
  exact (show f121e2_0 (u.1.1, u.1.2.2.2.2.2.1, u.1.2.2.2.2.2.2.1, u.1.2.2.2.2.2.2.2.1) = mkS f121h2_0 f121o2_0 u by kernel_rfl).trans (mkS_un f121h2_0 f121o2_0 s u hu)
def f121u2 : St → Option (List E_Cell × List E_Cell × Int × Int) := f121u2_0
def f121e2 : (List E_Cell × List E_Cell × Int × Int) → St := f121e2_0
theorem f121un2 : ∀ (s : St) (t : List E_Cell × List E_Cell × Int × Int), f121u2 s = some t → f121e2 t = s := f121un2_0
noncomputable def f121P : Lp := fun i s {_R} κ => bif Nat.beq i 2 then (f121u2 s).bind fun t => L_impl_CellsOk_2 (fun t => κ (none) (f121x2_0 t)) (fun t => κ (some 0) (f121x2_1 t)) t else none
noncomputable def f121c2 : Code := (loopsOf f121B).getD 0 .skip
theorem f121A2 : C.live 121 (firstRegion f121c2) = some ([0, 5, 6, 7, 16, 17, 18, 19, 22, 23, 24, 25, 26, 27, 28, 29], [0, 2]) := by kernel_rfl
theorem f121B2 {R : Type} (κ : Option Nat → St → Option R) (s : St) : f121P (firstRegion f121c2) s κ = (f121u2 s).bind fun t => iter (S_impl_CellsOk_2 (fun t => κ (none) (f121x2_0 t)) (fun t => κ (some 0) (f121x2_1 t))) FUEL t := by kernel_rfl
theorem f121C2 {R : Type} (κ : Option Nat → St → Option R) (again : St → Option R) (t : T_impl_CellsOk_2) : stepL C f121K f121P 121 f121c2 [0, 5, 6, 7, 16, 17, 18, 19, 22, 23, 24, 25, 26, 27, 28, 29] [0, 2] κ again (f121e2 t) = S_impl_CellsOk_2 (fun t => κ (none) (f121x2_0 t)) (fun t => κ (some 0) (f121x2_1 t)) (fun t => again (f121e2 t)) t := by kernel_rfl
theorem f121ok2 : LoopOk C f121K f121P 121 f121c2 := loop_ok f121A2 f121e2 f121u2 f121un2 (fun {_R} κ => S_impl_CellsOk_2 (fun t => κ (none) (f121x2_0 t)) (fun t => κ (some 0) (f121x2_1 t))) (fun {_R} κ s => f121B2 κ s) (fun {_R} κ again t => f121C2 κ again t)
theorem k121 : Contract C Tryz.prog f121K := contract_tab _ (fun p hp => by
    simp only [List.mem_cons, List.mem_nil_iff, or_false] at hp
    rcases hp with rfl | rfl
    · exact ok103
    · exact ok187)
theorem ev121 (x : List E_Cell) : evalB C f121K f121P 121 Tryz.f121 f121B ⟨[.v false [(.sl 94 ts_Cell)] [false]], [⟨false, [.bool], [false]⟩], false⟩ [(.sl 94 ts_Cell)] [.bool] x = F_impl_CellsOk x := by kernel_rfl
theorem ok121 : ContractAt C Tryz.prog 121 F_impl_CellsOk := fn_sound (lp := f121P) tok mixed k121 (by kernel_rfl) (fn := Tryz.f121) (c := f121B) (sg := ⟨[.v false [(.sl 94 ts_Cell)] [false]], [⟨false, [.bool], [false]⟩], false⟩) Tryz.func121 (by decide) (by kernel_rfl) (by kernel_rfl) (by kernel_rfl) (fun c' hc' => by
    rw [show loopsOf f121B = [f121c2] by kernel_rfl] at hc'
    simp only [List.mem_cons, List.mem_nil_iff, or_false] at hc'
    rcases hc' with rfl
    · exact f121ok2) (by decide) (by decide) (fun x y h => (ev121 x).trans h)
abbrev T_impl_KidsOf_5 : Type := Int × List E_Age × Int × Int × List E_i64
noncomputable def S_impl_KidsOf_5 {R : Type} (k0 : List E_i64 → Option R) (again : T_impl_KidsOf_5 → Option R) (t5 : T_impl_KidsOf_5) : Option R :=
  bif (decide (t5.2.2.2.1 < t5.2.2.1)) then if (0 : Int) ≤ t5.2.2.2.1 then if t5.2.2.2.1 < ((List.length t5.2.1 : Nat) : Int) then bif ((rd_Age t5.2.1 t5.2.2.2.1).2 == t5.1) then if (List.length t5.2.2.2.2 + List.length ([(rd_Age t5.2.1 t5.2.2.2.1).1] : List E_i64)) * 8 < 140737488355328 then again (t5.1, t5.2.1, t5.2.2.1, (Go.IntKind.wrap .i64 (t5.2.2.2.1 + (1 : Int))), (t5.2.2.2.2 ++ ([(rd_Age t5.2.1 t5.2.2.2.1).1] : List E_i64))) else none else again (t5.1, t5.2.1, t5.2.2.1, (Go.IntKind.wrap .i64 (t5.2.2.2.1 + (1 : Int))), t5.2.2.2.2) else none else none else k0 t5.2.2.2.2
noncomputable def L_impl_KidsOf_5 {R : Type} (k0 : List E_i64 → Option R) (t : T_impl_KidsOf_5) : Option R := iter (S_impl_KidsOf_5 k0) FUEL t
noncomputable def F_impl_KidsOf (x : List E_Age × Int) : Option (List E_i64) :=
  bif (x.2 == (0 : Int)) then some ([] : List E_i64) else L_impl_KidsOf_5 (fun x1 => some x1) (x.2, x.1, ((List.length x.1 : Nat) : Int), (0 : Int), ([] : List E_i64))
noncomputable def f163B : Code := match Tryz.f163.body with
  | some c => c
  | none => .skip
noncomputable def f163K : C.Sem := tab []
def f163h5_0 : List Sh := [.dead, .v (.int .i64), .dead, .dead, .dead, .own 10000000, .dead, .dead, .dead, .dead, .dead, .dead, .v (.sl 88 ts_Age), .v (.int .i64), .v (.int .i64), .dead, .dead, .dead, .dead, .dead, .dead, .dead, .dead, .dead, .dead, .dead, .dead, .dead, .dead]
def f163o5_0 : List (Nat × OSh) := [(10000000, .root true 3 ts_i64)]
def f163e5_0 (t : Int × List E_Age × Int × Int × List E_i64) : St := ⟨[.dead, .val (.int .i64) t.1, .dead, .dead, .dead, .own 10000000, .dead, .dead, .dead, .dead, .dead, .dead, .val (.sl 88 ts_Age) t.2.1, .val (.int .i64) t.2.2.1, .val (.int .i64) t.2.2.2.1, .dead, .dead, .dead, .dead, .dead, .dead, .dead, .dead, .dead, .dead, .dead, .dead, .dead, .dead], [(10000000, .root true 3 ts_i64 t.2.2.2.2)]⟩
def f163x5_0 (t : List E_i64) : St := ⟨[.dead, .dead, .dead, .dead, .dead, .own 10000000, .dead, .dead, .dead, .dead, .dead, .dead, .dead, .dead, .dead, .dead, .dead, .dead, .dead, .dead, .dead, .dead, .dead, .dead, .dead, .dead, .dead, .dead, .dead], [(10000000, .root true 3 ts_i64 t)]⟩
def f163u5_0 (s : St) : Option (Int × List E_Age × Int × Int × List E_i64) := (unS f163h5_0 f163o5_0 s).map fun v => (v.1.2.1, v.1.2.2.2.2.2.2.2.2.2.2.2.2.1, v.1.2.2.2.2.2.2.2.2.2.2.2.2.2.1, v.1.2.2.2.2.2.2.2.2.2.2.2.2.2.2.1, v.2.1)
theorem f163un5_0 : ∀ (s : St) (t : Int × List E_Age × Int × Int × List E_i64), f163u5_0 s = some t → f163e5_0 t = s := fun s v h => by
  obtain ⟨u, hu, rfl⟩ := Option.map_eq_some_iff.1 h
  exact (show f163e5_0 (u.1.2.1, u.1.2.2.2.2.2.2.2.2.2.2.2.2.1, u.1.2.2.2.2.2.2.2.2.2.2.2.2.2.1, u.1.2.2.2.2.2.2.2.2.2.2.2.2.2.2.1, u.2.1) = mkS f163h5_0 f163o5_0 u by kernel_rfl).trans (mkS_un f163h5_0 f163o5_0 s u hu)
def f163u5 : St → Option (Int × List E_Age × Int × Int × List E_i64) := f163u5_0
def f163e5 : (Int × List E_Age × Int × Int × List E_i64) → St := f163e5_0
theorem f163un5 : ∀ (s : St) (t : Int × List E_Age × Int × Int × List E_i64), f163u5 s = some t → f163e5 t = s := f163un5_0
noncomputable def f163P : Lp := fun i s {_R} κ => bif Nat.beq i 5 then (f163u5 s).bind fun t => L_impl_KidsOf_5 (fun t => κ (some 0) (f163x5_0 t)) t else none
noncomputable def f163c5 : Code := (loopsOf f163B).getD 0 .skip
theorem f163A5 : C.live 163 (firstRegion f163c5) = some ([1, 5, 12, 13, 14], [5]) := by kernel_rfl
theorem f163B5 {R : Type} (κ : Option Nat → St → Option R) (s : St) : f163P (firstRegion f163c5) s κ = (f163u5 s).bind fun t => iter (S_impl_KidsOf_5 (fun t => κ (some 0) (f163x5_0 t))) FUEL t := by kernel_rfl
theorem f163C5 {R : Type} (κ : Option Nat → St → Option R) (again : St → Option R) (t : T_impl_KidsOf_5) : stepL C f163K f163P 163 f163c5 [1, 5, 12, 13, 14] [5] κ again (f163e5 t) = S_impl_KidsOf_5 (fun t => κ (some 0) (f163x5_0 t)) (fun t => again (f163e5 t)) t := by kernel_rfl
theorem f163ok5 : LoopOk C f163K f163P 163 f163c5 := loop_ok f163A5 f163e5 f163u5 f163un5 (fun {_R} κ => S_impl_KidsOf_5 (fun t => κ (some 0) (f163x5_0 t))) (fun {_R} κ s => f163B5 κ s) (fun {_R} κ again t => f163C5 κ again t)
theorem k163 : Contract C Tryz.prog f163K := contract_tab _ (fun p hp => by cases hp)
theorem ev163 (x : List E_Age × Int) : evalB C f163K f163P 163 Tryz.f163 f163B ⟨[.v false [(.sl 88 ts_Age)] [false], .v false [(.int .i64)] [false]], [⟨false, [(.sl 3 ts_i64)], [true]⟩], false⟩ [(.sl 88 ts_Age), (.int .i64)] [(.sl 3 ts_i64)] x = F_impl_KidsOf x := by kernel_rfl
theorem ok163 : ContractAt C Tryz.prog 163 F_impl_KidsOf := fn_sound (lp := f163P) tok mixed k163 (by kernel_rfl) (fn := Tryz.f163) (c := f163B) (sg := ⟨[.v false [(.sl 88 ts_Age)] [false], .v false [(.int .i64)] [false]], [⟨false, [(.sl 3 ts_i64)], [true]⟩], false⟩) Tryz.func163 (by decide) (by kernel_rfl) (by kernel_rfl) (by kernel_rfl) (fun c' hc' => by
    rw [show loopsOf f163B = [f163c5] by kernel_rfl] at hc'
    simp only [List.mem_cons, List.mem_nil_iff, or_false] at hc'
    rcases hc' with rfl
    · exact f163ok5) (by decide) (by decide) (fun x y h => (ev163 x).trans h)
abbrev T_impl_NameOk_2 : Type := ByteArray × Int
noncomputable def S_impl_NameOk_2 {R : Type} (k0 : (ByteArray × Bool) → Option R) (k1 : ByteArray → Option R) (again : T_impl_NameOk_2 → Option R) (t2 : T_impl_NameOk_2) : Option R :=
  bif (decide (t2.2 < ((ByteArray.size t2.1 : Nat) : Int))) then if (0 : Int) ≤ t2.2 then if h1 : Int.toNat t2.2 < ByteArray.size t2.1 then Option.bind (F_impl_within ((Go.IntKind.wrap .i64 ((UInt8.toNat (ByteArray.get t2.1 (Int.toNat t2.2) h1) : Nat) : Int)), (97 : Int), (122 : Int))) fun r2 => Option.bind (bif (!r2) then if (0 : Int) ≤ t2.2 then if h4 : Int.toNat t2.2 < ByteArray.size t2.1 then Option.bind (F_impl_within ((Go.IntKind.wrap .i64 ((UInt8.toNat (ByteArray.get t2.1 (Int.toNat t2.2) h4) : Nat) : Int)), (48 : Int), (57 : Int))) fun r5 => some (!r5) else none else none else some false) fun u3 => bif u3 then k0 (t2.1, false) else again (t2.1, (Go.IntKind.wrap .i64 (t2.2 + (1 : Int)))) else none else none else k1 t2.1
noncomputable def L_impl_NameOk_2 {R : Type} (k0 : (ByteArray × Bool) → Option R) (k1 : ByteArray → Option R) (t : T_impl_NameOk_2) : Option R := iter (S_impl_NameOk_2 k0 k1) FUEL t
noncomputable def F_impl_NameOk (x : ByteArray) : Option (Bool) :=
  L_impl_NameOk_2 (fun x6 => some x6.2) (fun x7 => Option.bind (F_impl_within (((ByteArray.size x7 : Nat) : Int), (1 : Int), (6 : Int))) fun r8 => some r8) (x, (0 : Int))
noncomputable def f188B : Code := match Tryz.f188.body with
  | some c => c
  | none => .skip
noncomputable def f188K : C.Sem := tab [⟨103, F_impl_within⟩]
def f188h2_0 : List Sh := [.v .str, .dead, .dead, .v (.int .i64), .dead, .dead, .dead, .dead, .dead, .dead, .dead, .dead, .dead, .dead, .dead, .dead, .dead, .dead, .dead, .dead, .dead, .dead, .dead, .dead, .dead, .dead, .dead]
def f188o2_0 : List (Nat × OSh) := []
def f188e2_0 (t : ByteArray × Int) : St := ⟨[.val .str t.1, .dead, .dead, .val (.int .i64) t.2, .dead, .dead, .dead, .dead, .dead, .dead, .dead, .dead, .dead, .dead, .dead, .dead, .dead, .dead, .dead, .dead, .dead, .dead, .dead, .dead, .dead, .dead, .dead], []⟩
def f188x2_0 (t : ByteArray × Bool) : St := ⟨[.val .str t.1, .dead, .val .bool t.2, .dead, .dead, .dead, .dead, .dead, .dead, .dead, .dead, .dead, .dead, .dead, .dead, .dead, .dead, .dead, .dead, .dead, .dead, .dead, .dead, .dead, .dead, .dead, .dead], []⟩
def f188x2_1 (t : ByteArray) : St := ⟨[.val .str t, .dead, .dead, .dead, .dead, .dead, .dead, .dead, .dead, .dead, .dead, .dead, .dead, .dead, .dead, .dead, .dead, .dead, .dead, .dead, .dead, .dead, .dead, .dead, .dead, .dead, .dead], []⟩
def f188u2_0 (s : St) : Option (ByteArray × Int) := (unS f188h2_0 f188o2_0 s).map fun v => (v.1.1, v.1.2.2.2.1)
theorem f188un2_0 : ∀ (s : St) (t : ByteArray × Int), f188u2_0 s = some t → f188e2_0 t = s := fun s v h => by
  obtain ⟨u, hu, rfl⟩ := Option.map_eq_some_iff.1 h
  exact (show f188e2_0 (u.1.1, u.1.2.2.2.1) = mkS f188h2_0 f188o2_0 u by kernel_rfl).trans (mkS_un f188h2_0 f188o2_0 s u hu)
def f188u2 : St → Option (ByteArray × Int) := f188u2_0
def f188e2 : (ByteArray × Int) → St := f188e2_0
theorem f188un2 : ∀ (s : St) (t : ByteArray × Int), f188u2 s = some t → f188e2 t = s := f188un2_0
noncomputable def f188P : Lp := fun i s {_R} κ => bif Nat.beq i 2 then (f188u2 s).bind fun t => L_impl_NameOk_2 (fun t => κ (none) (f188x2_0 t)) (fun t => κ (some 0) (f188x2_1 t)) t else none
noncomputable def f188c2 : Code := (loopsOf f188B).getD 0 .skip
theorem f188A2 : C.live 188 (firstRegion f188c2) = some ([0, 3, 17, 18, 19, 20, 21, 22], [0, 2]) := by kernel_rfl
theorem f188B2 {R : Type} (κ : Option Nat → St → Option R) (s : St) : f188P (firstRegion f188c2) s κ = (f188u2 s).bind fun t => iter (S_impl_NameOk_2 (fun t => κ (none) (f188x2_0 t)) (fun t => κ (some 0) (f188x2_1 t))) FUEL t := by kernel_rfl
theorem f188C2 {R : Type} (κ : Option Nat → St → Option R) (again : St → Option R) (t : T_impl_NameOk_2) : stepL C f188K f188P 188 f188c2 [0, 3, 17, 18, 19, 20, 21, 22] [0, 2] κ again (f188e2 t) = S_impl_NameOk_2 (fun t => κ (none) (f188x2_0 t)) (fun t => κ (some 0) (f188x2_1 t)) (fun t => again (f188e2 t)) t := by kernel_rfl
theorem f188ok2 : LoopOk C f188K f188P 188 f188c2 := loop_ok f188A2 f188e2 f188u2 f188un2 (fun {_R} κ => S_impl_NameOk_2 (fun t => κ (none) (f188x2_0 t)) (fun t => κ (some 0) (f188x2_1 t))) (fun {_R} κ s => f188B2 κ s) (fun {_R} κ again t => f188C2 κ again t)
theorem k188 : Contract C Tryz.prog f188K := contract_tab _ (fun p hp => by
    simp only [List.mem_cons, List.mem_nil_iff, or_false] at hp
    rcases hp with rfl
    · exact ok103)
theorem ev188 (x : ByteArray) : evalB C f188K f188P 188 Tryz.f188 f188B ⟨[.v false [.str] [false]], [⟨false, [.bool], [false]⟩], false⟩ [.str] [.bool] x = F_impl_NameOk x := by kernel_rfl
theorem ok188 : ContractAt C Tryz.prog 188 F_impl_NameOk := fn_sound (lp := f188P) tok mixed k188 (by kernel_rfl) (fn := Tryz.f188) (c := f188B) (sg := ⟨[.v false [.str] [false]], [⟨false, [.bool], [false]⟩], false⟩) Tryz.func188 (by decide) (by kernel_rfl) (by kernel_rfl) (by kernel_rfl) (fun c' hc' => by
    rw [show loopsOf f188B = [f188c2] by kernel_rfl] at hc'
    simp only [List.mem_cons, List.mem_nil_iff, or_false] at hc'
    rcases hc' with rfl
    · exact f188ok2) (by decide) (by decide) (fun x y h => (ev188 x).trans h)
noncomputable def F_impl_volsOk_1 (x : ByteArray × Int × Int × Bool × ByteArray × Int × Int × Bool) : Option (Bool × ByteArray × Int × Int × Bool) :=
  some ((x.2.1 == x.2.2.2.2.2.1), x.2.2.2.2.1, x.2.2.2.2.2.1, x.2.2.2.2.2.2.1, x.2.2.2.2.2.2.2)
noncomputable def f190B : Code := match Tryz.f190.body with
  | some c => c
  | none => .skip
noncomputable def f190K : C.Sem := tab []
noncomputable def f190P : Lp := fun i s {_R} κ => none
theorem k190 : Contract C Tryz.prog f190K := contract_tab _ (fun p hp => by cases hp)
theorem ev190 (x : ByteArray × Int × Int × Bool × ByteArray × Int × Int × Bool) : evalB C f190K f190P 190 Tryz.f190 f190B ⟨[.v true [.str, (.int .i64), (.int .i64), .bool] [false, false, false, false], .p none [.str, (.int .i64), (.int .i64), .bool] [false, false, false, false]], [⟨false, [.bool], [false]⟩], false⟩ [.str, (.int .i64), (.int .i64), .bool, .str, (.int .i64), (.int .i64), .bool] [.bool, .str, (.int .i64), (.int .i64), .bool] x = F_impl_volsOk_1 x := by kernel_rfl
theorem ok190 : ContractAt C Tryz.prog 190 F_impl_volsOk_1 := fn_sound (lp := f190P) tok mixed k190 (by kernel_rfl) (fn := Tryz.f190) (c := f190B) (sg := ⟨[.v true [.str, (.int .i64), (.int .i64), .bool] [false, false, false, false], .p none [.str, (.int .i64), (.int .i64), .bool] [false, false, false, false]], [⟨false, [.bool], [false]⟩], false⟩) Tryz.func190 (by decide) (by kernel_rfl) (by kernel_rfl) (by kernel_rfl) (fun c' hc' => by
    rw [show loopsOf f190B = [] by kernel_rfl] at hc'
    cases hc') (by decide) (by decide) (fun x y h => (ev190 x).trans h)
abbrev T_slices_IndexFunc_Vol_impl_volsOk_1_2 : Type := List E_Vol × Int × Int × ByteArray × Int × Int × Bool
noncomputable def S_slices_IndexFunc_Vol_impl_volsOk_1_2 {R : Type} (k0 : (Int × ByteArray × Int × Int × Bool) → Option R) (k1 : (ByteArray × Int × Int × Bool) → Option R) (again : T_slices_IndexFunc_Vol_impl_volsOk_1_2 → Option R) (t2 : T_slices_IndexFunc_Vol_impl_volsOk_1_2) : Option R :=
  bif (decide (t2.2.2.1 < t2.2.1)) then if (0 : Int) ≤ t2.2.2.1 then if t2.2.2.1 < ((List.length t2.1 : Nat) : Int) then Option.bind (F_impl_volsOk_1 ((rd_Vol t2.1 t2.2.2.1).1, (rd_Vol t2.1 t2.2.2.1).2.1, (rd_Vol t2.1 t2.2.2.1).2.2.1, (rd_Vol t2.1 t2.2.2.1).2.2.2, t2.2.2.2.1, t2.2.2.2.2.1, t2.2.2.2.2.2.1, t2.2.2.2.2.2.2)) fun r1 => bif r1.1 then k0 (t2.2.2.1, r1.2.1, r1.2.2.1, r1.2.2.2.1, r1.2.2.2.2) else again (t2.1, t2.2.1, (Go.IntKind.wrap .i64 (t2.2.2.1 + (1 : Int))), r1.2.1, r1.2.2.1, r1.2.2.2.1, r1.2.2.2.2) else none else none else k1 (t2.2.2.2.1, t2.2.2.2.2.1, t2.2.2.2.2.2.1, t2.2.2.2.2.2.2)
noncomputable def L_slices_IndexFunc_Vol_impl_volsOk_1_2 {R : Type} (k0 : (Int × ByteArray × Int × Int × Bool) → Option R) (k1 : (ByteArray × Int × Int × Bool) → Option R) (t : T_slices_IndexFunc_Vol_impl_volsOk_1_2) : Option R := iter (S_slices_IndexFunc_Vol_impl_volsOk_1_2 k0 k1) FUEL t
noncomputable def F_slices_IndexFunc_Vol_impl_volsOk_1 (x : List E_Vol × ByteArray × Int × Int × Bool) : Option (Int × ByteArray × Int × Int × Bool) :=
  L_slices_IndexFunc_Vol_impl_volsOk_1_2 (fun x2 => some (x2.1, x2.2.1, x2.2.2.1, x2.2.2.2.1, x2.2.2.2.2)) (fun x3 => some ((-1 : Int), x3.1, x3.2.1, x3.2.2.1, x3.2.2.2)) (x.1, ((List.length x.1 : Nat) : Int), (0 : Int), x.2.1, x.2.2.1, x.2.2.2.1, x.2.2.2.2)
noncomputable def f100002B : Code := match Tryz.f231.body with
  | some c => c
  | none => .skip
noncomputable def f100002K : C.Sem := tab [⟨190, F_impl_volsOk_1⟩]
def f100002h2_0 : List Sh := [.v (.sl 90 ts_Vol), .clo 190 901, .dead, .dead, .dead, .dead, .dead, .v (.int .i64), .v (.int .i64), .dead, .dead, .dead, .dead, .dead, .dead, .dead, .dead, .dead, .dead]
def f100002o2_0 : List (Nat × OSh) := [(901, .box [.v .str, .v (.int .i64), .v (.int .i64), .v .bool])]
def f100002e2_0 (t : List E_Vol × Int × Int × ByteArray × Int × Int × Bool) : St := ⟨[.val (.sl 90 ts_Vol) t.1, .clo 190 901, .dead, .dead, .dead, .dead, .dead, .val (.int .i64) t.2.1, .val (.int .i64) t.2.2.1, .dead, .dead, .dead, .dead, .dead, .dead, .dead, .dead, .dead, .dead], [(901, .box [.val .str t.2.2.2.1, .val (.int .i64) t.2.2.2.2.1, .val (.int .i64) t.2.2.2.2.2.1, .val .bool t.2.2.2.2.2.2])]⟩
def f100002x2_0 (t : Int × ByteArray × Int × Int × Bool) : St := ⟨[.dead, .clo 190 901, .dead, .dead, .val (.int .i64) t.1, .dead, .dead, .dead, .dead, .dead, .dead, .dead, .dead, .dead, .dead, .dead, .dead, .dead, .dead], [(901, .box [.val .str t.2.1, .val (.int .i64) t.2.2.1, .val (.int .i64) t.2.2.2.1, .val .bool t.2.2.2.2])]⟩
def f100002x2_1 (t : ByteArray × Int × Int × Bool) : St := ⟨[.dead, .clo 190 901, .dead, .dead, .dead, .dead, .dead, .dead, .dead, .dead, .dead, .dead, .dead, .dead, .dead, .dead, .dead, .dead, .dead], [(901, .box [.val .str t.1, .val (.int .i64) t.2.1, .val (.int .i64) t.2.2.1, .val .bool t.2.2.2])]⟩
def f100002u2_0 (s : St) : Option (List E_Vol × Int × Int × ByteArray × Int × Int × Bool) := (unS f100002h2_0 f100002o2_0 s).map fun v => (v.1.1, v.1.2.2.2.2.2.2.2.1, v.1.2.2.2.2.2.2.2.2.1, v.2.1.1, v.2.1.2.1, v.2.1.2.2.1, v.2.1.2.2.2.1)
theorem f100002un2_0 : ∀ (s : St) (t : List E_Vol × Int × Int × ByteArray × Int × Int × Bool), f100002u2_0 s = some t → f100002e2_0 t = s := fun s v h => by
  obtain ⟨u, hu, rfl⟩ := Option.map_eq_some_iff.1 h
  exact (show f100002e2_0 (u.1.1, u.1.2.2.2.2.2.2.2.1, u.1.2.2.2.2.2.2.2.2.1, u.2.1.1, u.2.1.2.1, u.2.1.2.2.1, u.2.1.2.2.2.1) = mkS f100002h2_0 f100002o2_0 u by kernel_rfl).trans (mkS_un f100002h2_0 f100002o2_0 s u hu)
def f100002u2 : St → Option (List E_Vol × Int × Int × ByteArray × Int × Int × Bool) := f100002u2_0
def f100002e2 : (List E_Vol × Int × Int × ByteArray × Int × Int × Bool) → St := f100002e2_0
theorem f100002un2 : ∀ (s : St) (t : List E_Vol × Int × Int × ByteArray × Int × Int × Bool), f100002u2 s = some t → f100002e2 t = s := f100002un2_0
noncomputable def f100002P : Lp := fun i s {_R} κ => bif Nat.beq i 2 then (f100002u2 s).bind fun t => L_slices_IndexFunc_Vol_impl_volsOk_1_2 (fun t => κ (none) (f100002x2_0 t)) (fun t => κ (some 0) (f100002x2_1 t)) t else none
noncomputable def f100002c2 : Code := (loopsOf f100002B).getD 0 .skip
theorem f100002A2 : C.live 100002 (firstRegion f100002c2) = some ([0, 1, 7, 8], [1, 4]) := by kernel_rfl
theorem f100002B2 {R : Type} (κ : Option Nat → St → Option R) (s : St) : f100002P (firstRegion f100002c2) s κ = (f100002u2 s).bind fun t => iter (S_slices_IndexFunc_Vol_impl_volsOk_1_2 (fun t => κ (none) (f100002x2_0 t)) (fun t => κ (some 0) (f100002x2_1 t))) FUEL t := by kernel_rfl
theorem f100002C2 {R : Type} (κ : Option Nat → St → Option R) (again : St → Option R) (t : T_slices_IndexFunc_Vol_impl_volsOk_1_2) : stepL C f100002K f100002P 100002 f100002c2 [0, 1, 7, 8] [1, 4] κ again (f100002e2 t) = S_slices_IndexFunc_Vol_impl_volsOk_1_2 (fun t => κ (none) (f100002x2_0 t)) (fun t => κ (some 0) (f100002x2_1 t)) (fun t => again (f100002e2 t)) t := by kernel_rfl
theorem f100002ok2 : LoopOk C f100002K f100002P 100002 f100002c2 := loop_ok f100002A2 f100002e2 f100002u2 f100002un2 (fun {_R} κ => S_slices_IndexFunc_Vol_impl_volsOk_1_2 (fun t => κ (none) (f100002x2_0 t)) (fun t => κ (some 0) (f100002x2_1 t))) (fun {_R} κ s => f100002B2 κ s) (fun {_R} κ again t => f100002C2 κ again t)
theorem k100002 : Contract C Tryz.prog f100002K := contract_tab _ (fun p hp => by
    simp only [List.mem_cons, List.mem_nil_iff, or_false] at hp
    rcases hp with rfl
    · exact ok190)
theorem ev100002 (x : List E_Vol × ByteArray × Int × Int × Bool) : evalB C f100002K f100002P 100002 Tryz.f231 f100002B ⟨[.v false [(.sl 90 ts_Vol)] [false], .p (some 190) [.str, (.int .i64), (.int .i64), .bool] [false, false, false, false]], [⟨false, [(.int .i64)], [false]⟩], false⟩ [(.sl 90 ts_Vol), .str, (.int .i64), (.int .i64), .bool] [(.int .i64), .str, (.int .i64), (.int .i64), .bool] x = F_slices_IndexFunc_Vol_impl_volsOk_1 x := by kernel_rfl
theorem ok100002 : ContractAt C Tryz.prog 100002 F_slices_IndexFunc_Vol_impl_volsOk_1 := fn_sound (lp := f100002P) tok mixed k100002 (by kernel_rfl) (fn := Tryz.f231) (c := f100002B) (sg := ⟨[.v false [(.sl 90 ts_Vol)] [false], .p (some 190) [.str, (.int .i64), (.int .i64), .bool] [false, false, false, false]], [⟨false, [(.int .i64)], [false]⟩], false⟩) Tryz.func231 (by decide) (by kernel_rfl) (by kernel_rfl) (by kernel_rfl) (fun c' hc' => by
    rw [show loopsOf f100002B = [f100002c2] by kernel_rfl] at hc'
    simp only [List.mem_cons, List.mem_nil_iff, or_false] at hc'
    rcases hc' with rfl
    · exact f100002ok2) (by decide) (by decide) (fun x y h => (ev100002 x).trans h)
noncomputable def F_slices_ContainsFunc_Vol_impl_volsOk_1 (x : List E_Vol × ByteArray × Int × Int × Bool) : Option (Bool × ByteArray × Int × Int × Bool) :=
  Option.bind (F_slices_IndexFunc_Vol_impl_volsOk_1 (x.1, x.2.1, x.2.2.1, x.2.2.2.1, x.2.2.2.2)) fun r1 => some ((decide (r1.1 ≥ (0 : Int))), r1.2.1, r1.2.2.1, r1.2.2.2.1, r1.2.2.2.2)
noncomputable def f100001B : Code := match Tryz.f189.body with
  | some c => c
  | none => .skip
noncomputable def f100001K : C.Sem := tab [⟨100002, F_slices_IndexFunc_Vol_impl_volsOk_1⟩]
noncomputable def f100001P : Lp := fun i s {_R} κ => none
theorem k100001 : Contract C Tryz.prog f100001K := contract_tab _ (fun p hp => by
    simp only [List.mem_cons, List.mem_nil_iff, or_false] at hp
    rcases hp with rfl
    · exact ok100002)
theorem ev100001 (x : List E_Vol × ByteArray × Int × Int × Bool) : evalB C f100001K f100001P 100001 Tryz.f189 f100001B ⟨[.v false [(.sl 90 ts_Vol)] [false], .p (some 190) [.str, (.int .i64), (.int .i64), .bool] [false, false, false, false]], [⟨false, [.bool], [false]⟩], false⟩ [(.sl 90 ts_Vol), .str, (.int .i64), (.int .i64), .bool] [.bool, .str, (.int .i64), (.int .i64), .bool] x = F_slices_ContainsFunc_Vol_impl_volsOk_1 x := by kernel_rfl
theorem ok100001 : ContractAt C Tryz.prog 100001 F_slices_ContainsFunc_Vol_impl_volsOk_1 := fn_sound (lp := f100001P) tok mixed k100001 (by kernel_rfl) (fn := Tryz.f189) (c := f100001B) (sg := ⟨[.v false [(.sl 90 ts_Vol)] [false], .p (some 190) [.str, (.int .i64), (.int .i64), .bool] [false, false, false, false]], [⟨false, [.bool], [false]⟩], false⟩) Tryz.func189 (by decide) (by kernel_rfl) (by kernel_rfl) (by kernel_rfl) (fun c' hc' => by
    rw [show loopsOf f100001B = [] by kernel_rfl] at hc'
    cases hc') (by decide) (by decide) (fun x y h => (ev100001 x).trans h)
abbrev T_impl_volsOk_2 : Type := List E_Vol × Int × Int × List E_i64 × List E_Node × List E_Age × List E_Cell × List E_Vol × Int
noncomputable def S_impl_volsOk_2 {R : Type} (k0 : (Bool × List E_i64 × List E_Node × List E_Age × List E_Cell × List E_Vol × Int) → Option R) (k1 : (List E_i64 × List E_Node × List E_Age × List E_Cell × List E_Vol × Int) → Option R) (again : T_impl_volsOk_2 → Option R) (t2 : T_impl_volsOk_2) : Option R :=
  bif (decide (t2.2.2.1 < t2.2.1)) then if (0 : Int) ≤ t2.2.2.1 then if t2.2.2.1 < ((List.length t2.1 : Nat) : Int) then Option.bind (F_impl_NameOk ((rd_Vol t2.1 t2.2.2.1).1)) fun r1 => Option.bind (bif (!r1) then some true else Option.bind (bif (decide (t2.2.2.1 > (0 : Int))) then if (0 : Int) ≤ (Go.IntKind.wrap .i64 (t2.2.2.1 - (1 : Int))) then if (Go.IntKind.wrap .i64 (t2.2.2.1 - (1 : Int))) < ((List.length t2.2.2.2.2.2.2.2.1 : Nat) : Int) then some (!Go.Op.bytesLess (ByteArray.toList ((rd_Vol t2.2.2.2.2.2.2.2.1 (Go.IntKind.wrap .i64 (t2.2.2.1 - (1 : Int)))).1)) (ByteArray.toList ((rd_Vol t2.1 t2.2.2.1).1))) else none else none else some false) fun u3 => some u3) fun u2 => Option.bind (bif u2 then some true else Option.bind (F_impl_within ((rd_Vol t2.1 t2.2.2.1).2.2.1, (1 : Int), (12 : Int))) fun r5 => some (!r5)) fun u4 => bif u4 then k0 (false, t2.2.2.2.1, t2.2.2.2.2.1, t2.2.2.2.2.2.1, t2.2.2.2.2.2.2.1, t2.2.2.2.2.2.2.2.1, t2.2.2.2.2.2.2.2.2) else Option.bind (F_impl_AgeAt (t2.2.2.2.2.2.1, (rd_Vol t2.1 t2.2.2.1).2.1)) fun r6 => Option.bind (bif (decide (r6 < (0 : Int))) then some true else Option.bind (F_impl_KidsOf (t2.2.2.2.2.2.1, (rd_Vol t2.1 t2.2.2.1).2.1)) fun r8 => some (decide (((List.length r8 : Nat) : Int) > (0 : Int)))) fun u7 => bif u7 then k0 (false, t2.2.2.2.1, t2.2.2.2.2.1, t2.2.2.2.2.2.1, t2.2.2.2.2.2.2.1, t2.2.2.2.2.2.2.2.1, t2.2.2.2.2.2.2.2.2) else if (0 : Int) ≤ (0 : Int) then if (0 : Int) ≤ t2.2.2.1 then if t2.2.2.1 ≤ ((List.length t2.2.2.2.2.2.2.2.1 : Nat) : Int) then Option.bind (F_slices_ContainsFunc_Vol_impl_volsOk_1 ((List.drop (Int.toNat (0 : Int)) (List.take (Int.toNat t2.2.2.1) t2.2.2.2.2.2.2.2.1)), (rd_Vol t2.1 t2.2.2.1).1, (rd_Vol t2.1 t2.2.2.1).2.1, (rd_Vol t2.1 t2.2.2.1).2.2.1, (rd_Vol t2.1 t2.2.2.1).2.2.2)) fun r9 => bif r9.1 then k0 (false, t2.2.2.2.1, t2.2.2.2.2.1, t2.2.2.2.2.2.1, t2.2.2.2.2.2.2.1, t2.2.2.2.2.2.2.2.1, t2.2.2.2.2.2.2.2.2) else again (t2.1, t2.2.1, (Go.IntKind.wrap .i64 (t2.2.2.1 + (1 : Int))), t2.2.2.2.1, t2.2.2.2.2.1, t2.2.2.2.2.2.1, t2.2.2.2.2.2.2.1, t2.2.2.2.2.2.2.2.1, t2.2.2.2.2.2.2.2.2) else none else none else none else none else none else k1 (t2.2.2.2.1, t2.2.2.2.2.1, t2.2.2.2.2.2.1, t2.2.2.2.2.2.2.1, t2.2.2.2.2.2.2.2.1, t2.2.2.2.2.2.2.2.2)
noncomputable def L_impl_volsOk_2 {R : Type} (k0 : (Bool × List E_i64 × List E_Node × List E_Age × List E_Cell × List E_Vol × Int) → Option R) (k1 : (List E_i64 × List E_Node × List E_Age × List E_Cell × List E_Vol × Int) → Option R) (t : T_impl_volsOk_2) : Option R := iter (S_impl_volsOk_2 k0 k1) FUEL t
noncomputable def F_impl_volsOk (x : List E_i64 × List E_Node × List E_Age × List E_Cell × List E_Vol × Int) : Option (Bool) :=
  L_impl_volsOk_2 (fun x10 => some x10.1) (fun x11 => some (decide (((List.length x11.2.2.2.2.1 : Nat) : Int) ≤ (6 : Int)))) (x.2.2.2.2.1, ((List.length x.2.2.2.2.1 : Nat) : Int), (0 : Int), x.1, x.2.1, x.2.2.1, x.2.2.2.1, x.2.2.2.2.1, x.2.2.2.2.2)
noncomputable def f122B : Code := match Tryz.f122.body with
  | some c => c
  | none => .skip
noncomputable def f122K : C.Sem := tab [⟨103, F_impl_within⟩, ⟨163, F_impl_KidsOf⟩, ⟨186, F_impl_AgeAt⟩, ⟨188, F_impl_NameOk⟩, ⟨100001, F_slices_ContainsFunc_Vol_impl_volsOk_1⟩]
def f122h2_0 : List Sh := [.dead, .box 1 0, .dead, .dead, .dead, .dead, .v (.sl 90 ts_Vol), .v (.int .i64), .v (.int .i64), .dead, .dead, .dead, .dead, .dead, .dead, .dead, .dead, .dead, .dead, .dead, .dead, .dead, .dead, .dead, .dead, .dead, .dead, .dead, .dead, .dead, .dead, .dead, .dead, .dead, .dead, .dead, .dead, .dead, .dead, .dead, .dead, .dead, .dead, .dead, .dead, .dead, .dead, .dead, .dead, .dead, .dead, .dead, .dead, .dead, .dead, .dead, .dead, .dead, .dead, .dead, .dead, .dead, .dead, .dead, .dead]
def f122o2_0 : List (Nat × OSh) := [(1, .box [.v (.sl 3 ts_i64), .v (.sl 97 ts_Node), .v (.sl 88 ts_Age), .v (.sl 94 ts_Cell), .v (.sl 90 ts_Vol), .v (.int .i64)])]
def f122e2_0 (t : List E_Vol × Int × Int × List E_i64 × List E_Node × List E_Age × List E_Cell × List E_Vol × Int) : St := ⟨[.dead, .box 1 0, .dead, .dead, .dead, .dead, .val (.sl 90 ts_Vol) t.1, .val (.int .i64) t.2.1, .val (.int .i64) t.2.2.1, .dead, .dead, .dead, .dead, .dead, .dead, .dead, .dead, .dead, .dead, .dead, .dead, .dead, .dead, .dead, .dead, .dead, .dead, .dead, .dead, .dead, .dead, .dead, .dead, .dead, .dead, .dead, .dead, .dead, .dead, .dead, .dead, .dead, .dead, .dead, .dead, .dead, .dead, .dead, .dead, .dead, .dead, .dead, .dead, .dead, .dead, .dead, .dead, .dead, .dead, .dead, .dead, .dead, .dead, .dead, .dead], [(1, .box [.val (.sl 3 ts_i64) t.2.2.2.1, .val (.sl 97 ts_Node) t.2.2.2.2.1, .val (.sl 88 ts_Age) t.2.2.2.2.2.1, .val (.sl 94 ts_Cell) t.2.2.2.2.2.2.1, .val (.sl 90 ts_Vol) t.2.2.2.2.2.2.2.1, .val (.int .i64) t.2.2.2.2.2.2.2.2])]⟩
def f122x2_0 (t : Bool × List E_i64 × List E_Node × List E_Age × List E_Cell × List E_Vol × Int) : St := ⟨[.dead, .box 1 0, .val .bool t.1, .dead, .dead, .dead, .dead, .dead, .dead, .dead, .dead, .dead, .dead, .dead, .dead, .dead, .dead, .dead, .dead, .dead, .dead, .dead, .dead, .dead, .dead, .dead, .dead, .dead, .dead, .dead, .dead, .dead, .dead, .dead, .dead, .dead, .dead, .dead, .dead, .dead, .dead, .dead, .dead, .dead, .dead, .dead, .dead, .dead, .dead, .dead, .dead, .dead, .dead, .dead, .dead, .dead, .dead, .dead, .dead, .dead, .dead, .dead, .dead, .dead, .dead], [(1, .box [.val (.sl 3 ts_i64) t.2.1, .val (.sl 97 ts_Node) t.2.2.1, .val (.sl 88 ts_Age) t.2.2.2.1, .val (.sl 94 ts_Cell) t.2.2.2.2.1, .val (.sl 90 ts_Vol) t.2.2.2.2.2.1, .val (.int .i64) t.2.2.2.2.2.2])]⟩
def f122x2_1 (t : List E_i64 × List E_Node × List E_Age × List E_Cell × List E_Vol × Int) : St := ⟨[.dead, .box 1 0, .dead, .dead, .dead, .dead, .dead, .dead, .dead, .dead, .dead, .dead, .dead, .dead, .dead, .dead, .dead, .dead, .dead, .dead, .dead, .dead, .dead, .dead, .dead, .dead, .dead, .dead, .dead, .dead, .dead, .dead, .dead, .dead, .dead, .dead, .dead, .dead, .dead, .dead, .dead, .dead, .dead, .dead, .dead, .dead, .dead, .dead, .dead, .dead, .dead, .dead, .dead, .dead, .dead, .dead, .dead, .dead, .dead, .dead, .dead, .dead, .dead, .dead, .dead], [(1, .box [.val (.sl 3 ts_i64) t.1, .val (.sl 97 ts_Node) t.2.1, .val (.sl 88 ts_Age) t.2.2.1, .val (.sl 94 ts_Cell) t.2.2.2.1, .val (.sl 90 ts_Vol) t.2.2.2.2.1, .val (.int .i64) t.2.2.2.2.2])]⟩
def f122u2_0 (s : St) : Option (List E_Vol × Int × Int × List E_i64 × List E_Node × List E_Age × List E_Cell × List E_Vol × Int) := (unS f122h2_0 f122o2_0 s).map fun v => (v.1.2.2.2.2.2.2.1, v.1.2.2.2.2.2.2.2.1, v.1.2.2.2.2.2.2.2.2.1, v.2.1.1, v.2.1.2.1, v.2.1.2.2.1, v.2.1.2.2.2.1, v.2.1.2.2.2.2.1, v.2.1.2.2.2.2.2.1)
theorem f122un2_0 : ∀ (s : St) (t : List E_Vol × Int × Int × List E_i64 × List E_Node × List E_Age × List E_Cell × List E_Vol × Int), f122u2_0 s = some t → f122e2_0 t = s := fun s v h => by
  obtain ⟨u, hu, rfl⟩ := Option.map_eq_some_iff.1 h
  exact (show f122e2_0 (u.1.2.2.2.2.2.2.1, u.1.2.2.2.2.2.2.2.1, u.1.2.2.2.2.2.2.2.2.1, u.2.1.1, u.2.1.2.1, u.2.1.2.2.1, u.2.1.2.2.2.1, u.2.1.2.2.2.2.1, u.2.1.2.2.2.2.2.1) = mkS f122h2_0 f122o2_0 u by kernel_rfl).trans (mkS_un f122h2_0 f122o2_0 s u hu)
def f122u2 : St → Option (List E_Vol × Int × Int × List E_i64 × List E_Node × List E_Age × List E_Cell × List E_Vol × Int) := f122u2_0
def f122e2 : (List E_Vol × Int × Int × List E_i64 × List E_Node × List E_Age × List E_Cell × List E_Vol × Int) → St := f122e2_0
theorem f122un2 : ∀ (s : St) (t : List E_Vol × Int × Int × List E_i64 × List E_Node × List E_Age × List E_Cell × List E_Vol × Int), f122u2 s = some t → f122e2 t = s := f122un2_0
noncomputable def f122P : Lp := fun i s {_R} κ => bif Nat.beq i 2 then (f122u2 s).bind fun t => L_impl_volsOk_2 (fun t => κ (none) (f122x2_0 t)) (fun t => κ (some 0) (f122x2_1 t)) t else none
noncomputable def f122c2 : Code := (loopsOf f122B).getD 0 .skip
theorem f122A2 : C.live 122 (firstRegion f122c2) = some ([1, 6, 7, 8, 18, 19, 20, 21, 22, 23, 24, 25, 26, 27, 28, 29, 30, 31, 34, 35, 36, 37, 46, 47, 48, 49, 50, 51, 52], [1, 2]) := by kernel_rfl
theorem f122B2 {R : Type} (κ : Option Nat → St → Option R) (s : St) : f122P (firstRegion f122c2) s κ = (f122u2 s).bind fun t => iter (S_impl_volsOk_2 (fun t => κ (none) (f122x2_0 t)) (fun t => κ (some 0) (f122x2_1 t))) FUEL t := by kernel_rfl
theorem f122C2 {R : Type} (κ : Option Nat → St → Option R) (again : St → Option R) (t : T_impl_volsOk_2) : stepL C f122K f122P 122 f122c2 [1, 6, 7, 8, 18, 19, 20, 21, 22, 23, 24, 25, 26, 27, 28, 29, 30, 31, 34, 35, 36, 37, 46, 47, 48, 49, 50, 51, 52] [1, 2] κ again (f122e2 t) = S_impl_volsOk_2 (fun t => κ (none) (f122x2_0 t)) (fun t => κ (some 0) (f122x2_1 t)) (fun t => again (f122e2 t)) t := by kernel_rfl
theorem f122ok2 : LoopOk C f122K f122P 122 f122c2 := loop_ok f122A2 f122e2 f122u2 f122un2 (fun {_R} κ => S_impl_volsOk_2 (fun t => κ (none) (f122x2_0 t)) (fun t => κ (some 0) (f122x2_1 t))) (fun {_R} κ s => f122B2 κ s) (fun {_R} κ again t => f122C2 κ again t)
theorem k122 : Contract C Tryz.prog f122K := contract_tab _ (fun p hp => by
    simp only [List.mem_cons, List.mem_nil_iff, or_false] at hp
    rcases hp with rfl | rfl | rfl | rfl | rfl
    · exact ok103
    · exact ok163
    · exact ok186
    · exact ok188
    · exact ok100001)
theorem ev122 (x : List E_i64 × List E_Node × List E_Age × List E_Cell × List E_Vol × Int) : evalB C f122K f122P 122 Tryz.f122 f122B ⟨[.v true [(.sl 3 ts_i64), (.sl 97 ts_Node), (.sl 88 ts_Age), (.sl 94 ts_Cell), (.sl 90 ts_Vol), (.int .i64)] [false, false, false, false, false, false]], [⟨false, [.bool], [false]⟩], false⟩ [(.sl 3 ts_i64), (.sl 97 ts_Node), (.sl 88 ts_Age), (.sl 94 ts_Cell), (.sl 90 ts_Vol), (.int .i64)] [.bool] x = F_impl_volsOk x := by kernel_rfl
theorem ok122 : ContractAt C Tryz.prog 122 F_impl_volsOk := fn_sound (lp := f122P) tok mixed k122 (by kernel_rfl) (fn := Tryz.f122) (c := f122B) (sg := ⟨[.v true [(.sl 3 ts_i64), (.sl 97 ts_Node), (.sl 88 ts_Age), (.sl 94 ts_Cell), (.sl 90 ts_Vol), (.int .i64)] [false, false, false, false, false, false]], [⟨false, [.bool], [false]⟩], false⟩) Tryz.func122 (by decide) (by kernel_rfl) (by kernel_rfl) (by kernel_rfl) (fun c' hc' => by
    rw [show loopsOf f122B = [f122c2] by kernel_rfl] at hc'
    simp only [List.mem_cons, List.mem_nil_iff, or_false] at hc'
    rcases hc' with rfl
    · exact f122ok2) (by decide) (by decide) (fun x y h => (ev122 x).trans h)
abbrev T_impl_UsedCells_3 : Type := Int × List E_Cell × Int × Int
noncomputable def S_impl_UsedCells_3 {R : Type} (k0 : Int → Option R) (again : T_impl_UsedCells_3 → Option R) (t3 : T_impl_UsedCells_3) : Option R :=
  bif (decide (t3.2.2.2 < t3.2.2.1)) then if (0 : Int) ≤ t3.2.2.2 then if t3.2.2.2 < ((List.length t3.2.1 : Nat) : Int) then bif (rd_Cell t3.2.1 t3.2.2.2).2.1 then again ((Go.IntKind.wrap .i64 (t3.1 + (1 : Int))), t3.2.1, t3.2.2.1, (Go.IntKind.wrap .i64 (t3.2.2.2 + (1 : Int)))) else again (t3.1, t3.2.1, t3.2.2.1, (Go.IntKind.wrap .i64 (t3.2.2.2 + (1 : Int)))) else none else none else k0 t3.1
noncomputable def L_impl_UsedCells_3 {R : Type} (k0 : Int → Option R) (t : T_impl_UsedCells_3) : Option R := iter (S_impl_UsedCells_3 k0) FUEL t
noncomputable def F_impl_UsedCells (x : List E_Cell) : Option (Int) :=
  L_impl_UsedCells_3 (fun x1 => some x1) ((0 : Int), x, ((List.length x : Nat) : Int), (0 : Int))
noncomputable def f97B : Code := match Tryz.f97.body with
  | some c => c
  | none => .skip
noncomputable def f97K : C.Sem := tab []
def f97h3_0 : List Sh := [.dead, .dead, .dead, .v (.int .i64), .dead, .dead, .v (.sl 94 ts_Cell), .v (.int .i64), .v (.int .i64), .dead, .dead, .dead, .dead, .dead, .dead, .dead, .dead, .dead]
def f97o3_0 : List (Nat × OSh) := []
def f97e3_0 (t : Int × List E_Cell × Int × Int) : St := ⟨[.dead, .dead, .dead, .val (.int .i64) t.1, .dead, .dead, .val (.sl 94 ts_Cell) t.2.1, .val (.int .i64) t.2.2.1, .val (.int .i64) t.2.2.2, .dead, .dead, .dead, .dead, .dead, .dead, .dead, .dead, .dead], []⟩
def f97x3_0 (t : Int) : St := ⟨[.dead, .dead, .dead, .val (.int .i64) t, .dead, .dead, .dead, .dead, .dead, .dead, .dead, .dead, .dead, .dead, .dead, .dead, .dead, .dead], []⟩
def f97u3_0 (s : St) : Option (Int × List E_Cell × Int × Int) := (unS f97h3_0 f97o3_0 s).map fun v => (v.1.2.2.2.1, v.1.2.2.2.2.2.2.1, v.1.2.2.2.2.2.2.2.1, v.1.2.2.2.2.2.2.2.2.1)
theorem f97un3_0 : ∀ (s : St) (t : Int × List E_Cell × Int × Int), f97u3_0 s = some t → f97e3_0 t = s := fun s v h => by
  obtain ⟨u, hu, rfl⟩ := Option.map_eq_some_iff.1 h
  exact (show f97e3_0 (u.1.2.2.2.1, u.1.2.2.2.2.2.2.1, u.1.2.2.2.2.2.2.2.1, u.1.2.2.2.2.2.2.2.2.1) = mkS f97h3_0 f97o3_0 u by kernel_rfl).trans (mkS_un f97h3_0 f97o3_0 s u hu)
def f97u3 : St → Option (Int × List E_Cell × Int × Int) := f97u3_0
def f97e3 : (Int × List E_Cell × Int × Int) → St := f97e3_0
theorem f97un3 : ∀ (s : St) (t : Int × List E_Cell × Int × Int), f97u3 s = some t → f97e3 t = s := f97un3_0
noncomputable def f97P : Lp := fun i s {_R} κ => bif Nat.beq i 3 then (f97u3 s).bind fun t => L_impl_UsedCells_3 (fun t => κ (some 0) (f97x3_0 t)) t else none
noncomputable def f97c3 : Code := (loopsOf f97B).getD 0 .skip
theorem f97A3 : C.live 97 (firstRegion f97c3) = some ([3, 6, 7, 8], [3]) := by kernel_rfl
theorem f97B3 {R : Type} (κ : Option Nat → St → Option R) (s : St) : f97P (firstRegion f97c3) s κ = (f97u3 s).bind fun t => iter (S_impl_UsedCells_3 (fun t => κ (some 0) (f97x3_0 t))) FUEL t := by kernel_rfl
theorem f97C3 {R : Type} (κ : Option Nat → St → Option R) (again : St → Option R) (t : T_impl_UsedCells_3) : stepL C f97K f97P 97 f97c3 [3, 6, 7, 8] [3] κ again (f97e3 t) = S_impl_UsedCells_3 (fun t => κ (some 0) (f97x3_0 t)) (fun t => again (f97e3 t)) t := by kernel_rfl
theorem f97ok3 : LoopOk C f97K f97P 97 f97c3 := loop_ok f97A3 f97e3 f97u3 f97un3 (fun {_R} κ => S_impl_UsedCells_3 (fun t => κ (some 0) (f97x3_0 t))) (fun {_R} κ s => f97B3 κ s) (fun {_R} κ again t => f97C3 κ again t)
theorem k97 : Contract C Tryz.prog f97K := contract_tab _ (fun p hp => by cases hp)
theorem ev97 (x : List E_Cell) : evalB C f97K f97P 97 Tryz.f97 f97B ⟨[.v false [(.sl 94 ts_Cell)] [false]], [⟨false, [(.int .i64)], [false]⟩], false⟩ [(.sl 94 ts_Cell)] [(.int .i64)] x = F_impl_UsedCells x := by kernel_rfl
theorem ok97 : ContractAt C Tryz.prog 97 F_impl_UsedCells := fn_sound (lp := f97P) tok mixed k97 (by kernel_rfl) (fn := Tryz.f97) (c := f97B) (sg := ⟨[.v false [(.sl 94 ts_Cell)] [false]], [⟨false, [(.int .i64)], [false]⟩], false⟩) Tryz.func97 (by decide) (by kernel_rfl) (by kernel_rfl) (by kernel_rfl) (fun c' hc' => by
    rw [show loopsOf f97B = [f97c3] by kernel_rfl] at hc'
    simp only [List.mem_cons, List.mem_nil_iff, or_false] at hc'
    rcases hc' with rfl
    · exact f97ok3) (by decide) (by decide) (fun x y h => (ev97 x).trans h)
abbrev T_impl_TreeKeys_3 : Type := List E_Node × Int × Int × List E_Key
noncomputable def S_impl_TreeKeys_3 {R : Type} (k0 : List E_Key → Option R) (again : T_impl_TreeKeys_3 → Option R) (t3 : T_impl_TreeKeys_3) : Option R :=
  bif (decide (t3.2.2.1 < t3.2.1)) then if (0 : Int) ≤ t3.2.2.1 then if t3.2.2.1 < ((List.length t3.1 : Nat) : Int) then Option.bind (F_impl_NodeKeys (rd_Node t3.1 t3.2.2.1)) fun r1 => if (List.length t3.2.2.2 + List.length r1) * 40 < 140737488355328 then again (t3.1, t3.2.1, (Go.IntKind.wrap .i64 (t3.2.2.1 + (1 : Int))), (t3.2.2.2 ++ r1)) else none else none else none else k0 t3.2.2.2
noncomputable def L_impl_TreeKeys_3 {R : Type} (k0 : List E_Key → Option R) (t : T_impl_TreeKeys_3) : Option R := iter (S_impl_TreeKeys_3 k0) FUEL t
noncomputable def F_impl_TreeKeys (x : List E_i64 × List E_Node) : Option (List E_Key) :=
  L_impl_TreeKeys_3 (fun x2 => some x2) (x.2, ((List.length x.2 : Nat) : Int), (0 : Int), ([] : List E_Key))
noncomputable def f160B : Code := match Tryz.f160.body with
  | some c => c
  | none => .skip
noncomputable def f160K : C.Sem := tab [⟨185, F_impl_NodeKeys⟩]
def f160h3_0 : List Sh := [.dead, .dead, .dead, .own 10000000, .dead, .dead, .dead, .dead, .v (.sl 97 ts_Node), .v (.int .i64), .v (.int .i64), .dead, .dead, .dead, .dead, .dead, .dead, .dead, .dead, .dead]
def f160o3_0 : List (Nat × OSh) := [(10000000, .root true 105 ts_Key)]
def f160e3_0 (t : List E_Node × Int × Int × List E_Key) : St := ⟨[.dead, .dead, .dead, .own 10000000, .dead, .dead, .dead, .dead, .val (.sl 97 ts_Node) t.1, .val (.int .i64) t.2.1, .val (.int .i64) t.2.2.1, .dead, .dead, .dead, .dead, .dead, .dead, .dead, .dead, .dead], [(10000000, .root true 105 ts_Key t.2.2.2)]⟩
def f160x3_0 (t : List E_Key) : St := ⟨[.dead, .dead, .dead, .own 10000000, .dead, .dead, .dead, .dead, .dead, .dead, .dead, .dead, .dead, .dead, .dead, .dead, .dead, .dead, .dead, .dead], [(10000000, .root true 105 ts_Key t)]⟩
def f160u3_0 (s : St) : Option (List E_Node × Int × Int × List E_Key) := (unS f160h3_0 f160o3_0 s).map fun v => (v.1.2.2.2.2.2.2.2.2.1, v.1.2.2.2.2.2.2.2.2.2.1, v.1.2.2.2.2.2.2.2.2.2.2.1, v.2.1)
theorem f160un3_0 : ∀ (s : St) (t : List E_Node × Int × Int × List E_Key), f160u3_0 s = some t → f160e3_0 t = s := fun s v h => by
  obtain ⟨u, hu, rfl⟩ := Option.map_eq_some_iff.1 h
  exact (show f160e3_0 (u.1.2.2.2.2.2.2.2.2.1, u.1.2.2.2.2.2.2.2.2.2.1, u.1.2.2.2.2.2.2.2.2.2.2.1, u.2.1) = mkS f160h3_0 f160o3_0 u by kernel_rfl).trans (mkS_un f160h3_0 f160o3_0 s u hu)
def f160u3 : St → Option (List E_Node × Int × Int × List E_Key) := f160u3_0
def f160e3 : (List E_Node × Int × Int × List E_Key) → St := f160e3_0
theorem f160un3 : ∀ (s : St) (t : List E_Node × Int × Int × List E_Key), f160u3 s = some t → f160e3 t = s := f160un3_0
noncomputable def f160P : Lp := fun i s {_R} κ => bif Nat.beq i 3 then (f160u3 s).bind fun t => L_impl_TreeKeys_3 (fun t => κ (some 0) (f160x3_0 t)) t else none
noncomputable def f160c3 : Code := (loopsOf f160B).getD 0 .skip
theorem f160A3 : C.live 160 (firstRegion f160c3) = some ([3, 8, 9, 10], [3]) := by kernel_rfl
theorem f160B3 {R : Type} (κ : Option Nat → St → Option R) (s : St) : f160P (firstRegion f160c3) s κ = (f160u3 s).bind fun t => iter (S_impl_TreeKeys_3 (fun t => κ (some 0) (f160x3_0 t))) FUEL t := by kernel_rfl
theorem f160C3 {R : Type} (κ : Option Nat → St → Option R) (again : St → Option R) (t : T_impl_TreeKeys_3) : stepL C f160K f160P 160 f160c3 [3, 8, 9, 10] [3] κ again (f160e3 t) = S_impl_TreeKeys_3 (fun t => κ (some 0) (f160x3_0 t)) (fun t => again (f160e3 t)) t := by kernel_rfl
theorem f160ok3 : LoopOk C f160K f160P 160 f160c3 := loop_ok f160A3 f160e3 f160u3 f160un3 (fun {_R} κ => S_impl_TreeKeys_3 (fun t => κ (some 0) (f160x3_0 t))) (fun {_R} κ s => f160B3 κ s) (fun {_R} κ again t => f160C3 κ again t)
theorem k160 : Contract C Tryz.prog f160K := contract_tab _ (fun p hp => by
    simp only [List.mem_cons, List.mem_nil_iff, or_false] at hp
    rcases hp with rfl
    · exact ok185)
theorem ev160 (x : List E_i64 × List E_Node) : evalB C f160K f160P 160 Tryz.f160 f160B ⟨[.v true [(.sl 3 ts_i64), (.sl 97 ts_Node)] [false, false]], [⟨false, [(.sl 105 ts_Key)], [true]⟩], false⟩ [(.sl 3 ts_i64), (.sl 97 ts_Node)] [(.sl 105 ts_Key)] x = F_impl_TreeKeys x := by kernel_rfl
theorem ok160 : ContractAt C Tryz.prog 160 F_impl_TreeKeys := fn_sound (lp := f160P) tok mixed k160 (by kernel_rfl) (fn := Tryz.f160) (c := f160B) (sg := ⟨[.v true [(.sl 3 ts_i64), (.sl 97 ts_Node)] [false, false]], [⟨false, [(.sl 105 ts_Key)], [true]⟩], false⟩) Tryz.func160 (by decide) (by kernel_rfl) (by kernel_rfl) (by kernel_rfl) (fun c' hc' => by
    rw [show loopsOf f160B = [f160c3] by kernel_rfl] at hc'
    simp only [List.mem_cons, List.mem_nil_iff, or_false] at hc'
    rcases hc' with rfl
    · exact f160ok3) (by decide) (by decide) (fun x y h => (ev160 x).trans h)
noncomputable def F_impl_CellAt (x : List E_Cell × Int × Int) : Option (Int × Bool) :=
  Option.bind (F_impl_within (x.2.1, (0 : Int), (Go.IntKind.wrap .i64 (((List.length x.1 : Nat) : Int) - (1 : Int))))) fun r1 => Option.bind (bif (!r1) then some true else if (0 : Int) ≤ x.2.1 then if x.2.1 < ((List.length x.1 : Nat) : Int) then some (!((rd_Cell x.1 x.2.1).2.1)) else none else none) fun u2 => Option.bind (bif u2 then some true else if (0 : Int) ≤ x.2.1 then if x.2.1 < ((List.length x.1 : Nat) : Int) then some ((rd_Cell x.1 x.2.1).1 != x.2.2) else none else none) fun u3 => bif u3 then some ((0 : Int), false) else if (0 : Int) ≤ x.2.1 then if x.2.1 < ((List.length x.1 : Nat) : Int) then some ((rd_Cell x.1 x.2.1).2.2, true) else none else none
noncomputable def f191B : Code := match Tryz.f191.body with
  | some c => c
  | none => .skip
noncomputable def f191K : C.Sem := tab [⟨103, F_impl_within⟩]
noncomputable def f191P : Lp := fun i s {_R} κ => none
theorem k191 : Contract C Tryz.prog f191K := contract_tab _ (fun p hp => by
    simp only [List.mem_cons, List.mem_nil_iff, or_false] at hp
    rcases hp with rfl
    · exact ok103)
theorem ev191 (x : List E_Cell × Int × Int) : evalB C f191K f191P 191 Tryz.f191 f191B ⟨[.v false [(.sl 94 ts_Cell)] [false], .v false [(.int .i64)] [false], .v false [(.int .i64)] [false]], [⟨false, [(.int .i64)], [false]⟩, ⟨false, [.bool], [false]⟩], false⟩ [(.sl 94 ts_Cell), (.int .i64), (.int .i64)] [(.int .i64), .bool] x = F_impl_CellAt x := by kernel_rfl
theorem ok191 : ContractAt C Tryz.prog 191 F_impl_CellAt := fn_sound (lp := f191P) tok mixed k191 (by kernel_rfl) (fn := Tryz.f191) (c := f191B) (sg := ⟨[.v false [(.sl 94 ts_Cell)] [false], .v false [(.int .i64)] [false], .v false [(.int .i64)] [false]], [⟨false, [(.int .i64)], [false]⟩, ⟨false, [.bool], [false]⟩], false⟩) Tryz.func191 (by decide) (by kernel_rfl) (by kernel_rfl) (by kernel_rfl) (fun c' hc' => by
    rw [show loopsOf f191B = [] by kernel_rfl] at hc'
    cases hc') (by decide) (by decide) (fun x y h => (ev191 x).trans h)
abbrev T_impl_keysFit_4 : Type := Int × Int × Int × List E_i64 × List E_Node × List E_Age × List E_Cell × List E_Vol × Int × List E_bool × List E_Key
noncomputable def S_impl_keysFit_4 {R : Type} (k0 : (Bool × Int × List E_i64 × List E_Node × List E_Age × List E_Cell × List E_Vol × Int) → Option R) (k1 : (Int × List E_i64 × List E_Node × List E_Age × List E_Cell × List E_Vol × Int) → Option R) (again : T_impl_keysFit_4 → Option R) (t4 : T_impl_keysFit_4) : Option R :=
  bif (decide (t4.2.2.1 < t4.2.1)) then if (0 : Int) ≤ t4.2.2.1 then if t4.2.2.1 < ((List.length t4.2.2.2.2.2.2.2.2.2.2 : Nat) : Int) then Option.bind (F_impl_AgeAt (t4.2.2.2.2.2.1, (rd_Key t4.2.2.2.2.2.2.2.2.2.2 t4.2.2.1).2.1)) fun r2 => bif (decide (r2 < (0 : Int))) then k0 (false, t4.1, t4.2.2.2.1, t4.2.2.2.2.1, t4.2.2.2.2.2.1, t4.2.2.2.2.2.2.1, t4.2.2.2.2.2.2.2.1, t4.2.2.2.2.2.2.2.2.1) else bif ((rd_Key t4.2.2.2.2.2.2.2.2.2.2 t4.2.2.1).2.2.1 != (1 : Int)) then again (t4.1, t4.2.1, (Go.IntKind.wrap .i64 (t4.2.2.1 + (1 : Int))), t4.2.2.2.1, t4.2.2.2.2.1, t4.2.2.2.2.2.1, t4.2.2.2.2.2.2.1, t4.2.2.2.2.2.2.2.1, t4.2.2.2.2.2.2.2.2.1, t4.2.2.2.2.2.2.2.2.2.1, t4.2.2.2.2.2.2.2.2.2.2) else Option.bind (F_impl_CellAt (t4.2.2.2.2.2.2.1, (rd_Key t4.2.2.2.2.2.2.2.2.2.2 t4.2.2.1).2.2.2.1, (rd_Key t4.2.2.2.2.2.2.2.2.2.2 t4.2.2.1).2.2.2.2)) fun r3 => Option.bind (bif (!r3.2) then some true else if (0 : Int) ≤ (rd_Key t4.2.2.2.2.2.2.2.2.2.2 t4.2.2.1).2.2.2.1 then if (rd_Key t4.2.2.2.2.2.2.2.2.2.2 t4.2.2.1).2.2.2.1 < ((List.length t4.2.2.2.2.2.2.2.2.2.1 : Nat) : Int) then some (rd_bool t4.2.2.2.2.2.2.2.2.2.1 ((rd_Key t4.2.2.2.2.2.2.2.2.2.2 t4.2.2.1).2.2.2.1)) else none else none) fun u4 => bif u4 then k0 (false, t4.1, t4.2.2.2.1, t4.2.2.2.2.1, t4.2.2.2.2.2.1, t4.2.2.2.2.2.2.1, t4.2.2.2.2.2.2.2.1, t4.2.2.2.2.2.2.2.2.1) else if (0 : Int) ≤ (rd_Key t4.2.2.2.2.2.2.2.2.2.2 t4.2.2.1).2.2.2.1 then if (rd_Key t4.2.2.2.2.2.2.2.2.2.2 t4.2.2.1).2.2.2.1 < ((List.length t4.2.2.2.2.2.2.2.2.2.1 : Nat) : Int) then again ((Go.IntKind.wrap .i64 (t4.1 + (1 : Int))), t4.2.1, (Go.IntKind.wrap .i64 (t4.2.2.1 + (1 : Int))), t4.2.2.2.1, t4.2.2.2.2.1, t4.2.2.2.2.2.1, t4.2.2.2.2.2.2.1, t4.2.2.2.2.2.2.2.1, t4.2.2.2.2.2.2.2.2.1, (List.set t4.2.2.2.2.2.2.2.2.2.1 (Int.toNat ((rd_Key t4.2.2.2.2.2.2.2.2.2.2 t4.2.2.1).2.2.2.1)) true), t4.2.2.2.2.2.2.2.2.2.2) else none else none else none else none else k1 (t4.1, t4.2.2.2.1, t4.2.2.2.2.1, t4.2.2.2.2.2.1, t4.2.2.2.2.2.2.1, t4.2.2.2.2.2.2.2.1, t4.2.2.2.2.2.2.2.2.1)
noncomputable def L_impl_keysFit_4 {R : Type} (k0 : (Bool × Int × List E_i64 × List E_Node × List E_Age × List E_Cell × List E_Vol × Int) → Option R) (k1 : (Int × List E_i64 × List E_Node × List E_Age × List E_Cell × List E_Vol × Int) → Option R) (t : T_impl_keysFit_4) : Option R := iter (S_impl_keysFit_4 k0 k1) FUEL t
noncomputable def F_impl_keysFit (x : List E_i64 × List E_Node × List E_Age × List E_Cell × List E_Vol × Int) : Option (Bool) :=
  if (0 : Int) ≤ (24 : Int) then if (24 : Int) ≤ (24 : Int) then if (24 : Int) * ((1 : Nat) : Int) ≤ 140737488351232 then Option.bind (F_impl_TreeKeys (x.1, x.2.1)) fun r1 => L_impl_keysFit_4 (fun x5 => some x5.1) (fun x6 => Option.bind (F_impl_UsedCells x6.2.2.2.2.1) fun r7 => some (r7 == x6.1)) ((0 : Int), ((List.length r1 : Nat) : Int), (0 : Int), x.1, x.2.1, x.2.2.1, x.2.2.2.1, x.2.2.2.2.1, x.2.2.2.2.2, (List.replicate (Int.toNat (24 : Int)) z_bool), r1) else none else none else none
noncomputable def f123B : Code := match Tryz.f123.body with
  | some c => c
  | none => .skip
noncomputable def f123K : C.Sem := tab [⟨97, F_impl_UsedCells⟩, ⟨160, F_impl_TreeKeys⟩, ⟨186, F_impl_AgeAt⟩, ⟨191, F_impl_CellAt⟩]
def f123h4_0 : List Sh := [.dead, .box 1 0, .dead, .own 10000000, .v (.int .i64), .dead, .dead, .dead, .dead, .dead, .dead, .dead, .own 10000001, .v (.int .i64), .v (.int .i64), .dead, .dead, .dead, .dead, .dead, .dead, .dead, .dead, .dead, .dead, .dead, .dead, .dead, .dead, .dead, .dead, .dead, .dead, .dead, .dead, .dead, .dead, .dead, .dead, .dead, .dead, .dead, .dead, .dead, .dead, .dead, .dead, .dead, .dead, .dead, .dead, .dead, .dead, .dead, .dead, .dead, .dead, .dead]
def f123o4_0 : List (Nat × OSh) := [(1, .box [.v (.sl 3 ts_i64), .v (.sl 97 ts_Node), .v (.sl 88 ts_Age), .v (.sl 94 ts_Cell), .v (.sl 90 ts_Vol), .v (.int .i64)]), (10000000, .root true 4 ts_bool), (10000001, .root true 105 ts_Key)]
def f123e4_0 (t : Int × Int × Int × List E_i64 × List E_Node × List E_Age × List E_Cell × List E_Vol × Int × List E_bool × List E_Key) : St := ⟨[.dead, .box 1 0, .dead, .own 10000000, .val (.int .i64) t.1, .dead, .dead, .dead, .dead, .dead, .dead, .dead, .own 10000001, .val (.int .i64) t.2.1, .val (.int .i64) t.2.2.1, .dead, .dead, .dead, .dead, .dead, .dead, .dead, .dead, .dead, .dead, .dead, .dead, .dead, .dead, .dead, .dead, .dead, .dead, .dead, .dead, .dead, .dead, .dead, .dead, .dead, .dead, .dead, .dead, .dead, .dead, .dead, .dead, .dead, .dead, .dead, .dead, .dead, .dead, .dead, .dead, .dead, .dead, .dead], [(1, .box [.val (.sl 3 ts_i64) t.2.2.2.1, .val (.sl 97 ts_Node) t.2.2.2.2.1, .val (.sl 88 ts_Age) t.2.2.2.2.2.1, .val (.sl 94 ts_Cell) t.2.2.2.2.2.2.1, .val (.sl 90 ts_Vol) t.2.2.2.2.2.2.2.1, .val (.int .i64) t.2.2.2.2.2.2.2.2.1]), (10000000, .root true 4 ts_bool t.2.2.2.2.2.2.2.2.2.1), (10000001, .root true 105 ts_Key t.2.2.2.2.2.2.2.2.2.2)]⟩
def f123x4_0 (t : Bool × Int × List E_i64 × List E_Node × List E_Age × List E_Cell × List E_Vol × Int) : St := ⟨[.dead, .box 1 0, .val .bool t.1, .dead, .val (.int .i64) t.2.1, .dead, .dead, .dead, .dead, .dead, .dead, .dead, .dead, .dead, .dead, .dead, .dead, .dead, .dead, .dead, .dead, .dead, .dead, .dead, .dead, .dead, .dead, .dead, .dead, .dead, .dead, .dead, .dead, .dead, .dead, .dead, .dead, .dead, .dead, .dead, .dead, .dead, .dead, .dead, .dead, .dead, .dead, .dead, .dead, .dead, .dead, .dead, .dead, .dead, .dead, .dead, .dead, .dead], [(1, .box [.val (.sl 3 ts_i64) t.2.2.1, .val (.sl 97 ts_Node) t.2.2.2.1, .val (.sl 88 ts_Age) t.2.2.2.2.1, .val (.sl 94 ts_Cell) t.2.2.2.2.2.1, .val (.sl 90 ts_Vol) t.2.2.2.2.2.2.1, .val (.int .i64) t.2.2.2.2.2.2.2])]⟩
def f123x4_1 (t : Int × List E_i64 × List E_Node × List E_Age × List E_Cell × List E_Vol × Int) : St := ⟨[.dead, .box 1 0, .dead, .dead, .val (.int .i64) t.1, .dead, .dead, .dead, .dead, .dead, .dead, .dead, .dead, .dead, .dead, .dead, .dead, .dead, .dead, .dead, .dead, .dead, .dead, .dead, .dead, .dead, .dead, .dead, .dead, .dead, .dead, .dead, .dead, .dead, .dead, .dead, .dead, .dead, .dead, .dead, .dead, .dead, .dead, .dead, .dead, .dead, .dead, .dead, .dead, .dead, .dead, .dead, .dead, .dead, .dead, .dead, .dead, .dead], [(1, .box [.val (.sl 3 ts_i64) t.2.1, .val (.sl 97 ts_Node) t.2.2.1, .val (.sl 88 ts_Age) t.2.2.2.1, .val (.sl 94 ts_Cell) t.2.2.2.2.1, .val (.sl 90 ts_Vol) t.2.2.2.2.2.1, .val (.int .i64) t.2.2.2.2.2.2])]⟩
def f123u4_0 (s : St) : Option (Int × Int × Int × List E_i64 × List E_Node × List E_Age × List E_Cell × List E_Vol × Int × List E_bool × List E_Key) := (unS f123h4_0 f123o4_0 s).map fun v => (v.1.2.2.2.2.1, v.1.2.2.2.2.2.2.2.2.2.2.2.2.2.1, v.1.2.2.2.2.2.2.2.2.2.2.2.2.2.2.1, v.2.1.1, v.2.1.2.1, v.2.1.2.2.1, v.2.1.2.2.2.1, v.2.1.2.2.2.2.1, v.2.1.2.2.2.2.2.1, v.2.2.1, v.2.2.2.1)
theorem f123un4_0 : ∀ (s : St) (t : Int × Int × Int × List E_i64 × List E_Node × List E_Age × List E_Cell × List E_Vol × Int × List E_bool × List E_Key), f123u4_0 s = some t → f123e4_0 t = s := fun s v h => by
  obtain ⟨u, hu, rfl⟩ := Option.map_eq_some_iff.1 h
  exact (show f123e4_0 (u.1.2.2.2.2.1, u.1.2.2.2.2.2.2.2.2.2.2.2.2.2.1, u.1.2.2.2.2.2.2.2.2.2.2.2.2.2.2.1, u.2.1.1, u.2.1.2.1, u.2.1.2.2.1, u.2.1.2.2.2.1, u.2.1.2.2.2.2.1, u.2.1.2.2.2.2.2.1, u.2.2.1, u.2.2.2.1) = mkS f123h4_0 f123o4_0 u by kernel_rfl).trans (mkS_un f123h4_0 f123o4_0 s u hu)
def f123u4 : St → Option (Int × Int × Int × List E_i64 × List E_Node × List E_Age × List E_Cell × List E_Vol × Int × List E_bool × List E_Key) := f123u4_0
def f123e4 : (Int × Int × Int × List E_i64 × List E_Node × List E_Age × List E_Cell × List E_Vol × Int × List E_bool × List E_Key) → St := f123e4_0
theorem f123un4 : ∀ (s : St) (t : Int × Int × Int × List E_i64 × List E_Node × List E_Age × List E_Cell × List E_Vol × Int × List E_bool × List E_Key), f123u4 s = some t → f123e4 t = s := f123un4_0
noncomputable def f123P : Lp := fun i s {_R} κ => bif Nat.beq i 4 then (f123u4 s).bind fun t => L_impl_keysFit_4 (fun t => κ (none) (f123x4_0 t)) (fun t => κ (some 0) (f123x4_1 t)) t else none
noncomputable def f123c4 : Code := (loopsOf f123B).getD 0 .skip
theorem f123A4 : C.live 123 (firstRegion f123c4) = some ([1, 3, 4, 12, 13, 14, 40, 41, 42, 43, 44], [1, 2, 4]) := by kernel_rfl
theorem f123B4 {R : Type} (κ : Option Nat → St → Option R) (s : St) : f123P (firstRegion f123c4) s κ = (f123u4 s).bind fun t => iter (S_impl_keysFit_4 (fun t => κ (none) (f123x4_0 t)) (fun t => κ (some 0) (f123x4_1 t))) FUEL t := by kernel_rfl
theorem f123C4 {R : Type} (κ : Option Nat → St → Option R) (again : St → Option R) (t : T_impl_keysFit_4) : stepL C f123K f123P 123 f123c4 [1, 3, 4, 12, 13, 14, 40, 41, 42, 43, 44] [1, 2, 4] κ again (f123e4 t) = S_impl_keysFit_4 (fun t => κ (none) (f123x4_0 t)) (fun t => κ (some 0) (f123x4_1 t)) (fun t => again (f123e4 t)) t := by kernel_rfl
theorem f123ok4 : LoopOk C f123K f123P 123 f123c4 := loop_ok f123A4 f123e4 f123u4 f123un4 (fun {_R} κ => S_impl_keysFit_4 (fun t => κ (none) (f123x4_0 t)) (fun t => κ (some 0) (f123x4_1 t))) (fun {_R} κ s => f123B4 κ s) (fun {_R} κ again t => f123C4 κ again t)
theorem k123 : Contract C Tryz.prog f123K := contract_tab _ (fun p hp => by
    simp only [List.mem_cons, List.mem_nil_iff, or_false] at hp
    rcases hp with rfl | rfl | rfl | rfl
    · exact ok97
    · exact ok160
    · exact ok186
    · exact ok191)
theorem ev123 (x : List E_i64 × List E_Node × List E_Age × List E_Cell × List E_Vol × Int) : evalB C f123K f123P 123 Tryz.f123 f123B ⟨[.v true [(.sl 3 ts_i64), (.sl 97 ts_Node), (.sl 88 ts_Age), (.sl 94 ts_Cell), (.sl 90 ts_Vol), (.int .i64)] [false, false, false, false, false, false]], [⟨false, [.bool], [false]⟩], false⟩ [(.sl 3 ts_i64), (.sl 97 ts_Node), (.sl 88 ts_Age), (.sl 94 ts_Cell), (.sl 90 ts_Vol), (.int .i64)] [.bool] x = F_impl_keysFit x := by kernel_rfl
theorem ok123 : ContractAt C Tryz.prog 123 F_impl_keysFit := fn_sound (lp := f123P) tok mixed k123 (by kernel_rfl) (fn := Tryz.f123) (c := f123B) (sg := ⟨[.v true [(.sl 3 ts_i64), (.sl 97 ts_Node), (.sl 88 ts_Age), (.sl 94 ts_Cell), (.sl 90 ts_Vol), (.int .i64)] [false, false, false, false, false, false]], [⟨false, [.bool], [false]⟩], false⟩) Tryz.func123 (by decide) (by kernel_rfl) (by kernel_rfl) (by kernel_rfl) (fun c' hc' => by
    rw [show loopsOf f123B = [f123c4] by kernel_rfl] at hc'
    simp only [List.mem_cons, List.mem_nil_iff, or_false] at hc'
    rcases hc' with rfl
    · exact f123ok4) (by decide) (by decide) (fun x y h => (ev123 x).trans h)
abbrev T_impl_PoolOk_4 : Type := List E_Age × Int × Int × List E_i64 × List E_Node × List E_Age × List E_Cell × List E_Vol × Int
noncomputable def S_impl_PoolOk_4 {R : Type} (k0 : (Bool × List E_i64 × List E_Node × List E_Age × List E_Cell × List E_Vol × Int) → Option R) (k1 : (List E_i64 × List E_Node × List E_Age × List E_Cell × List E_Vol × Int) → Option R) (again : T_impl_PoolOk_4 → Option R) (t4 : T_impl_PoolOk_4) : Option R :=
  bif (decide (t4.2.2.1 < t4.2.1)) then if (0 : Int) ≤ t4.2.2.1 then if t4.2.2.1 < ((List.length t4.1 : Nat) : Int) then bif (decide ((rd_Age t4.1 t4.2.2.1).1 ≥ t4.2.2.2.2.2.2.2.2)) then k0 (false, t4.2.2.2.1, t4.2.2.2.2.1, t4.2.2.2.2.2.1, t4.2.2.2.2.2.2.1, t4.2.2.2.2.2.2.2.1, t4.2.2.2.2.2.2.2.2) else again (t4.1, t4.2.1, (Go.IntKind.wrap .i64 (t4.2.2.1 + (1 : Int))), t4.2.2.2.1, t4.2.2.2.2.1, t4.2.2.2.2.2.1, t4.2.2.2.2.2.2.1, t4.2.2.2.2.2.2.2.1, t4.2.2.2.2.2.2.2.2) else none else none else k1 (t4.2.2.2.1, t4.2.2.2.2.1, t4.2.2.2.2.2.1, t4.2.2.2.2.2.2.1, t4.2.2.2.2.2.2.2.1, t4.2.2.2.2.2.2.2.2)
noncomputable def L_impl_PoolOk_4 {R : Type} (k0 : (Bool × List E_i64 × List E_Node × List E_Age × List E_Cell × List E_Vol × Int) → Option R) (k1 : (List E_i64 × List E_Node × List E_Age × List E_Cell × List E_Vol × Int) → Option R) (t : T_impl_PoolOk_4) : Option R := iter (S_impl_PoolOk_4 k0 k1) FUEL t
noncomputable def F_impl_PoolOk (x : List E_i64 × List E_Node × List E_Age × List E_Cell × List E_Vol × Int) : Option (Bool) :=
  Option.bind (F_impl_TreeOk (x.1, x.2.1)) fun r1 => Option.bind (bif (!r1) then some true else Option.bind (F_impl_AgesOk x.2.2.1) fun r3 => some (!r3)) fun u2 => Option.bind (bif u2 then some true else Option.bind (F_impl_CellsOk x.2.2.2.1) fun r5 => some (!r5)) fun u4 => Option.bind (bif u4 then some true else Option.bind (F_impl_within (x.2.2.2.2.2, (1 : Int), (61 : Int))) fun r7 => some (!r7)) fun u6 => bif u6 then some false else L_impl_PoolOk_4 (fun x8 => some x8.1) (fun x9 => Option.bind (F_impl_volsOk (x9.1, x9.2.1, x9.2.2.1, x9.2.2.2.1, x9.2.2.2.2.1, x9.2.2.2.2.2)) fun r10 => Option.bind (bif r10 then Option.bind (F_impl_keysFit (x9.1, x9.2.1, x9.2.2.1, x9.2.2.2.1, x9.2.2.2.2.1, x9.2.2.2.2.2)) fun r12 => some r12 else some false) fun u11 => some u11) (x.2.2.1, ((List.length x.2.2.1 : Nat) : Int), (0 : Int), x.1, x.2.1, x.2.2.1, x.2.2.2.1, x.2.2.2.2.1, x.2.2.2.2.2)
noncomputable def f54B : Code := match Tryz.f54.body with
  | some c => c
  | none => .skip
noncomputable def f54K : C.Sem := tab [⟨103, F_impl_within⟩, ⟨119, F_impl_TreeOk⟩, ⟨120, F_impl_AgesOk⟩, ⟨121, F_impl_CellsOk⟩, ⟨122, F_impl_volsOk⟩, ⟨123, F_impl_keysFit⟩]
def f54h4_0 : List Sh := [.dead, .box 1 0, .dead, .dead, .dead, .dead, .dead, .dead, .dead, .dead, .dead, .dead, .dead, .dead, .dead, .dead, .dead, .dead, .dead, .dead, .dead, .dead, .dead, .dead, .dead, .dead, .dead, .dead, .v (.sl 88 ts_Age), .v (.int .i64), .v (.int .i64), .dead, .dead, .dead, .dead, .dead, .dead, .dead, .dead, .dead, .dead, .dead, .dead, .dead, .dead, .dead]
def f54o4_0 : List (Nat × OSh) := [(1, .box [.v (.sl 3 ts_i64), .v (.sl 97 ts_Node), .v (.sl 88 ts_Age), .v (.sl 94 ts_Cell), .v (.sl 90 ts_Vol), .v (.int .i64)])]
def f54e4_0 (t : List E_Age × Int × Int × List E_i64 × List E_Node × List E_Age × List E_Cell × List E_Vol × Int) : St := ⟨[.dead, .box 1 0, .dead, .dead, .dead, .dead, .dead, .dead, .dead, .dead, .dead, .dead, .dead, .dead, .dead, .dead, .dead, .dead, .dead, .dead, .dead, .dead, .dead, .dead, .dead, .dead, .dead, .dead, .val (.sl 88 ts_Age) t.1, .val (.int .i64) t.2.1, .val (.int .i64) t.2.2.1, .dead, .dead, .dead, .dead, .dead, .dead, .dead, .dead, .dead, .dead, .dead, .dead, .dead, .dead, .dead], [(1, .box [.val (.sl 3 ts_i64) t.2.2.2.1, .val (.sl 97 ts_Node) t.2.2.2.2.1, .val (.sl 88 ts_Age) t.2.2.2.2.2.1, .val (.sl 94 ts_Cell) t.2.2.2.2.2.2.1, .val (.sl 90 ts_Vol) t.2.2.2.2.2.2.2.1, .val (.int .i64) t.2.2.2.2.2.2.2.2])]⟩
def f54x4_0 (t : Bool × List E_i64 × List E_Node × List E_Age × List E_Cell × List E_Vol × Int) : St := ⟨[.dead, .box 1 0, .val .bool t.1, .dead, .dead, .dead, .dead, .dead, .dead, .dead, .dead, .dead, .dead, .dead, .dead, .dead, .dead, .dead, .dead, .dead, .dead, .dead, .dead, .dead, .dead, .dead, .dead, .dead, .dead, .dead, .dead, .dead, .dead, .dead, .dead, .dead, .dead, .dead, .dead, .dead, .dead, .dead, .dead, .dead, .dead, .dead], [(1, .box [.val (.sl 3 ts_i64) t.2.1, .val (.sl 97 ts_Node) t.2.2.1, .val (.sl 88 ts_Age) t.2.2.2.1, .val (.sl 94 ts_Cell) t.2.2.2.2.1, .val (.sl 90 ts_Vol) t.2.2.2.2.2.1, .val (.int .i64) t.2.2.2.2.2.2])]⟩
def f54x4_1 (t : List E_i64 × List E_Node × List E_Age × List E_Cell × List E_Vol × Int) : St := ⟨[.dead, .box 1 0, .dead, .dead, .dead, .dead, .dead, .dead, .dead, .dead, .dead, .dead, .dead, .dead, .dead, .dead, .dead, .dead, .dead, .dead, .dead, .dead, .dead, .dead, .dead, .dead, .dead, .dead, .dead, .dead, .dead, .dead, .dead, .dead, .dead, .dead, .dead, .dead, .dead, .dead, .dead, .dead, .dead, .dead, .dead, .dead], [(1, .box [.val (.sl 3 ts_i64) t.1, .val (.sl 97 ts_Node) t.2.1, .val (.sl 88 ts_Age) t.2.2.1, .val (.sl 94 ts_Cell) t.2.2.2.1, .val (.sl 90 ts_Vol) t.2.2.2.2.1, .val (.int .i64) t.2.2.2.2.2])]⟩
def f54u4_0 (s : St) : Option (List E_Age × Int × Int × List E_i64 × List E_Node × List E_Age × List E_Cell × List E_Vol × Int) := (unS f54h4_0 f54o4_0 s).map fun v => (v.1.2.2.2.2.2.2.2.2.2.2.2.2.2.2.2.2.2.2.2.2.2.2.2.2.2.2.2.2.1, v.1.2.2.2.2.2.2.2.2.2.2.2.2.2.2.2.2.2.2.2.2.2.2.2.2.2.2.2.2.2.1, v.1.2.2.2.2.2.2.2.2.2.2.2.2.2.2.2.2.2.2.2.2.2.2.2.2.2.2.2.2.2.2.1, v.2.1.1, v.2.1.2.1, v.2.1.2.2.1, v.2.1.2.2.2.1, v.2.1.2.2.2.2.1, v.2.1.2.2.2.2.2.1)
theorem f54un4_0 : ∀ (s : St) (t : List E_Age × Int × Int × List E_i64 × List E_Node × List E_Age × List E_Cell × List E_Vol × Int), f54u4_0 s = some t → f54e4_0 t = s := fun s v h => by
  obtain ⟨u, hu, rfl⟩ := Option.map_eq_some_iff.1 h
  exact (show f54e4_0 (u.1.2.2.2.2.2.2.2.2.2.2.2.2.2.2.2.2.2.2.2.2.2.2.2.2.2.2.2.2.1, u.1.2.2.2.2.2.2.2.2.2.2.2.2.2.2.2.2.2.2.2.2.2.2.2.2.2.2.2.2.2.1, u.1.2.2.2.2.2.2.2.2.2.2.2.2.2.2.2.2.2.2.2.2.2.2.2.2.2.2.2.2.2.2.1, u.2.1.1, u.2.1.2.1, u.2.1.2.2.1, u.2.1.2.2.2.1, u.2.1.2.2.2.2.1, u.2.1.2.2.2.2.2.1) = mkS f54h4_0 f54o4_0 u by kernel_rfl).trans (mkS_un f54h4_0 f54o4_0 s u hu)
def f54u4 : St → Option (List E_Age × Int × Int × List E_i64 × List E_Node × List E_Age × List E_Cell × List E_Vol × Int) := f54u4_0
def f54e4 : (List E_Age × Int × Int × List E_i64 × List E_Node × List E_Age × List E_Cell × List E_Vol × Int) → St := f54e4_0
theorem f54un4 : ∀ (s : St) (t : List E_Age × Int × Int × List E_i64 × List E_Node × List E_Age × List E_Cell × List E_Vol × Int), f54u4 s = some t → f54e4 t = s := f54un4_0
noncomputable def f54P : Lp := fun i s {_R} κ => bif Nat.beq i 4 then (f54u4 s).bind fun t => L_impl_PoolOk_4 (fun t => κ (none) (f54x4_0 t)) (fun t => κ (some 0) (f54x4_1 t)) t else none
noncomputable def f54c4 : Code := (loopsOf f54B).getD 0 .skip
theorem f54A4 : C.live 54 (firstRegion f54c4) = some ([1, 28, 29, 30, 43, 44], [1, 2, 43, 44]) := by kernel_rfl
theorem f54B4 {R : Type} (κ : Option Nat → St → Option R) (s : St) : f54P (firstRegion f54c4) s κ = (f54u4 s).bind fun t => iter (S_impl_PoolOk_4 (fun t => κ (none) (f54x4_0 t)) (fun t => κ (some 0) (f54x4_1 t))) FUEL t := by kernel_rfl
theorem f54C4 {R : Type} (κ : Option Nat → St → Option R) (again : St → Option R) (t : T_impl_PoolOk_4) : stepL C f54K f54P 54 f54c4 [1, 28, 29, 30, 43, 44] [1, 2, 43, 44] κ again (f54e4 t) = S_impl_PoolOk_4 (fun t => κ (none) (f54x4_0 t)) (fun t => κ (some 0) (f54x4_1 t)) (fun t => again (f54e4 t)) t := by kernel_rfl
theorem f54ok4 : LoopOk C f54K f54P 54 f54c4 := loop_ok f54A4 f54e4 f54u4 f54un4 (fun {_R} κ => S_impl_PoolOk_4 (fun t => κ (none) (f54x4_0 t)) (fun t => κ (some 0) (f54x4_1 t))) (fun {_R} κ s => f54B4 κ s) (fun {_R} κ again t => f54C4 κ again t)
theorem k54 : Contract C Tryz.prog f54K := contract_tab _ (fun p hp => by
    simp only [List.mem_cons, List.mem_nil_iff, or_false] at hp
    rcases hp with rfl | rfl | rfl | rfl | rfl | rfl
    · exact ok103
    · exact ok119
    · exact ok120
    · exact ok121
    · exact ok122
    · exact ok123)
theorem ev54 (x : List E_i64 × List E_Node × List E_Age × List E_Cell × List E_Vol × Int) : evalB C f54K f54P 54 Tryz.f54 f54B ⟨[.v true [(.sl 3 ts_i64), (.sl 97 ts_Node), (.sl 88 ts_Age), (.sl 94 ts_Cell), (.sl 90 ts_Vol), (.int .i64)] [false, false, false, false, false, false]], [⟨false, [.bool], [false]⟩], false⟩ [(.sl 3 ts_i64), (.sl 97 ts_Node), (.sl 88 ts_Age), (.sl 94 ts_Cell), (.sl 90 ts_Vol), (.int .i64)] [.bool] x = F_impl_PoolOk x := by kernel_rfl
theorem ok54 : ContractAt C Tryz.prog 54 F_impl_PoolOk := fn_sound (lp := f54P) tok mixed k54 (by kernel_rfl) (fn := Tryz.f54) (c := f54B) (sg := ⟨[.v true [(.sl 3 ts_i64), (.sl 97 ts_Node), (.sl 88 ts_Age), (.sl 94 ts_Cell), (.sl 90 ts_Vol), (.int .i64)] [false, false, false, false, false, false]], [⟨false, [.bool], [false]⟩], false⟩) Tryz.func54 (by decide) (by kernel_rfl) (by kernel_rfl) (by kernel_rfl) (fun c' hc' => by
    rw [show loopsOf f54B = [f54c4] by kernel_rfl] at hc'
    simp only [List.mem_cons, List.mem_nil_iff, or_false] at hc'
    rcases hc' with rfl
    · exact f54ok4) (by decide) (by decide) (fun x y h => (ev54 x).trans h)
noncomputable def F_impl_Idle_1 (x : ByteArray × Int × Int × Bool × Int) : Option (Bool × Int) :=
  some ((x.2.1 == x.2.2.2.2), x.2.2.2.2)
noncomputable def f206B : Code := match Tryz.f206.body with
  | some c => c
  | none => .skip
noncomputable def f206K : C.Sem := tab []
noncomputable def f206P : Lp := fun i s {_R} κ => none
theorem k206 : Contract C Tryz.prog f206K := contract_tab _ (fun p hp => by cases hp)
theorem ev206 (x : ByteArray × Int × Int × Bool × Int) : evalB C f206K f206P 206 Tryz.f206 f206B ⟨[.v true [.str, (.int .i64), (.int .i64), .bool] [false, false, false, false], .p none [(.int .i64)] [false]], [⟨false, [.bool], [false]⟩], false⟩ [.str, (.int .i64), (.int .i64), .bool, (.int .i64)] [.bool, (.int .i64)] x = F_impl_Idle_1 x := by kernel_rfl
theorem ok206 : ContractAt C Tryz.prog 206 F_impl_Idle_1 := fn_sound (lp := f206P) tok mixed k206 (by kernel_rfl) (fn := Tryz.f206) (c := f206B) (sg := ⟨[.v true [.str, (.int .i64), (.int .i64), .bool] [false, false, false, false], .p none [(.int .i64)] [false]], [⟨false, [.bool], [false]⟩], false⟩) Tryz.func206 (by decide) (by kernel_rfl) (by kernel_rfl) (by kernel_rfl) (fun c' hc' => by
    rw [show loopsOf f206B = [] by kernel_rfl] at hc'
    cases hc') (by decide) (by decide) (fun x y h => (ev206 x).trans h)
end Go.Proofs.YtmofdkmggfdciaaGreat.XC
